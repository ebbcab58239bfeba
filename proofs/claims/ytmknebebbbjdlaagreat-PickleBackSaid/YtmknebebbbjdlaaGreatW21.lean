/- A part of the proof: Kz. -/
import Derived.Test.YtmknebebbbjdlaaGreatW11
import Derived.Test.YtmknebebbbjdlaaGreatW12
import Derived.Test.YtmknebebbbjdlaaGreatW13
import Derived.Test.YtmknebebbbjdlaaGreatW14
import Derived.Test.YtmknebebbbjdlaaGreatW15
import Derived.Test.YtmknebebbbjdlaaGreatW16
import Derived.Test.YtmknebebbbjdlaaGreatW17
import Derived.Test.YtmknebebbbjdlaaGreatW18
import Derived.Test.YtmknebebbbjdlaaGreatW19
import Derived.Test.YtmknebebbbjdlaaGreatW20
set_option linter.unusedSectionVars false
set_option linter.unusedVariables false
set_option linter.unusedSimpArgs false
set_option maxRecDepth 200000
namespace Go.Ce
open Go Go.Proofs Go.Proofs.Tryz
open Go.RowKit (Below)
theorem AFs:VU prog Tryz.f16 (Bg (cS prog Kv 3000) none 16 ((DP prog 16).drop 11) ADF ADE)=true:=by kernel_rfl
theorem pg:∃ n,Mu ((C2 prog Kv n).call 16 [] (W0 0))=true :=
 WG (i:=11) (by kernel_rfl) (by kernel_rfl) (by kernel_rfl) Tryz.func16 (by kernel_rfl) AFs fun x a' W' h =>
  (.p7 2 3000 (Eg kS1) <| .p7 1 3000 (Eg kS2) <| .p7 1 3000 (Eg kS3) <| .p7 1 3000 (Eg kS4) <| .p7 1 3000 (Eg kS5) <| .p7 1 3000 (Eg kS6) <| .p7 1 3000 (Eg kS7) <| .p7 1 3000 (Eg kS8) <| .p7 1 3000 (Eg kS9) <| .p7 1 3000 (Eg AFr) h)
theorem kzp:ZP prog:=ZP.of (by kernel_rfl) (EX.of (by kernel_rfl))
theorem ken:EN prog:=EN.of (by kernel_rfl)
theorem AAE:prog.follows .mixedOrders=true:=by kernel_rfl
theorem iS (w:World) (k:Nat):CallsIn (F0 prog) k prog 16 #[] w fun e w'=>e=.returned (.bool true)∧Below w.heap.size w w':=by
 obtain ⟨n,h⟩:=pg; exact YL kzp AAE ken (CK.of kR (by kernel_rfl)) h w k
end Go.Ce
