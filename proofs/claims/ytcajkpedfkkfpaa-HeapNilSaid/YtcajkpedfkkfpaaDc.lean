/- The heap's example hands back true, in every world. -/
import Derived.Test.YtcajkpedfkkfpaaDa
import Derived.Test.YtcajkpedfkkfpaaDb
set_option linter.unusedSectionVars false
set_option linter.unusedVariables false
set_option linter.unusedSimpArgs false
namespace Go.Ce
open Go Go.Proofs
theorem heap_alive (w : World) : Calls Try.prog 16 #[] w (fun e w' => e = .returned (.bool true) ∧ Go.RowKit.Below w.heap.size w w') :=
  closed_run (ZP.of heap_zp) heap_mix (EN.of heap_en) (CK.of heap_code) heap_alive_run w
#print axioms heap_alive
end Go.Ce
