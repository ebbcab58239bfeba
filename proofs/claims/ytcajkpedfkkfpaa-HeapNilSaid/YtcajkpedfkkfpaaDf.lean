/- The heap's methods at a nil receiver, the rest; New. -/
import Derived.Test.YtcajkpedfkkfpaaDe
import Derived.WalkKit
import Derived.ProofKit
set_option linter.unusedSectionVars false
set_option linter.unusedVariables false
set_option linter.unusedSimpArgs false
namespace Go.Ce
open Go Go.Proofs
open Go.RowKit (Below)
def nilL2 : List FuncId := [11, 12, 18, 21, 23, 24, 35, 45, 49, 25, 48, 50, 34, 30, 38]
theorem nil_code2 : callsOk Try.prog nilL2 = true := by kernel_rfl
theorem nil_11 (w : World) : Calls Try.prog 11 #[.pointer none] w (fun e w' => e = .returned (.int .i64 0) ∧ Below w.heap.size w w') :=
  closed_ret (n := 40) (args := [.pointer none]) (ZP.of heap_zp) heap_mix (EN.of heap_en) (CK.of nil_code2) (by kernel_rfl) rfl rfl w
theorem nil_21 (w : World) : Calls Try.prog 21 #[.pointer none] w (fun e w' => e = .returned (.int .i64 0) ∧ Below w.heap.size w w') :=
  closed_ret (n := 40) (args := [.pointer none]) (ZP.of heap_zp) heap_mix (EN.of heap_en) (CK.of nil_code2) (by kernel_rfl) rfl rfl w
theorem nil_23 (n : Int) (w : World) : Calls Try.prog 23 #[.pointer none, .int .i64 n] w (fun e w' => e = .returned (.int .i64 0) ∧ Below w.heap.size w w') :=
  closed_ret (n := 40) (args := [.pointer none, .int .i64 n]) (ZP.of heap_zp) heap_mix (EN.of heap_en) (CK.of nil_code2) (by kernel_rfl) rfl rfl w
theorem nil_12 (n : Int) (w : World) : Calls Try.prog 12 #[.pointer none, .int .i64 n] w (fun e w' => e = .returned (.bool false) ∧ Below w.heap.size w w') :=
  closed_ret (n := 40) (args := [.pointer none, .int .i64 n]) (ZP.of heap_zp) heap_mix (EN.of heap_en) (CK.of nil_code2) (by kernel_rfl) rfl rfl w
theorem nil_24 (w : World) : Calls Try.prog 24 #[.pointer none] w (fun e w' => e = .returned (.bool false) ∧ Below w.heap.size w w') :=
  closed_ret (n := 40) (args := [.pointer none]) (ZP.of heap_zp) heap_mix (EN.of heap_en) (CK.of nil_code2) (by kernel_rfl) rfl rfl w
theorem nil_18 (w : World) : Calls Try.prog 18 #[.pointer none] w (fun e w' => e = .returned (.slice none 0 0) ∧ Below w.heap.size w w') :=
  closed_ret (n := 40) (args := [.pointer none]) (ZP.of heap_zp) heap_mix (EN.of heap_en) (CK.of nil_code2) (by kernel_rfl) rfl rfl w
end Go.Ce
