/- The heap's methods at a nil receiver. -/
import Derived.Test.YtcajkpedfkkfpaaDb
import Derived.Test.YtcajkpedfkkfpaaDa
import Derived.Test.YtcajkpedfkkfpaaDd
set_option linter.unusedSectionVars false
set_option linter.unusedVariables false
set_option linter.unusedSimpArgs false
namespace Go.Ce
open Go Go.Proofs
open Go.RowKit (Below)
def nilL : List FuncId := [8, 9, 10, 13, 15, 17, 20, 22, 35, 45, 49, 25, 48]
theorem nil_code : callsOk Try.prog nilL = true := by kernel_rfl
theorem nil_make (n : Int) (w : World) : Calls Try.prog 8 #[.pointer none, .int .i64 n, .slice none 0 0, .slice none 0 0] w (fun e w' => e = .returned (.tuple #[.int .i64 0, .int .i64 3]) ∧ Below w.heap.size w w') :=
  closed_ret (n := 40) (args := [.pointer none, .int .i64 n, .slice none 0 0, .slice none 0 0]) (ZP.of heap_zp) heap_mix (EN.of heap_en) (CK.of nil_code) (by kernel_rfl) rfl rfl w
theorem nil_get (n : Int) (w : World) : Calls Try.prog 15 #[.pointer none, .int .i64 n, .int .i64 n] w (fun e w' => e = .returned (.tuple #[.int .u8 0, .int .i64 0, .int .i64 3]) ∧ Below w.heap.size w w') :=
  closed_ret (n := 40) (args := [.pointer none, .int .i64 n, .int .i64 n]) (ZP.of heap_zp) heap_mix (EN.of heap_en) (CK.of nil_code) (by kernel_rfl) rfl rfl w
theorem nil_flip (w : World) : Calls Try.prog 10 #[.pointer none, .slice none 0 0, .slice none 0 0] w (fun e w' => e = .returned (.tuple #[.slice none 0 0, .int .i64 3]) ∧ Below w.heap.size w w') :=
  closed_ret (n := 40) (args := [.pointer none, .slice none 0 0, .slice none 0 0]) (ZP.of heap_zp) heap_mix (EN.of heap_en) (CK.of nil_code) (by kernel_rfl) rfl rfl w
theorem nil_step (n : Int) (w : World) : Calls Try.prog 20 #[.pointer none, .int .i64 n] w (fun e w' => e = .returned (.tuple #[.bool false, .int .i64 3]) ∧ Below w.heap.size w w') :=
  closed_ret (n := 40) (args := [.pointer none, .int .i64 n]) (ZP.of heap_zp) heap_mix (EN.of heap_en) (CK.of nil_code) (by kernel_rfl) rfl rfl w
theorem nil_weak (n : Int) (w : World) : Calls Try.prog 9 #[.pointer none, .int .i64 n] w (fun e w' => e = .returned (.tuple #[.int .i64 0, .int .i64 3]) ∧ Below w.heap.size w w') :=
  closed_ret (n := 40) (args := [.pointer none, .int .i64 n]) (ZP.of heap_zp) heap_mix (EN.of heap_en) (CK.of nil_code) (by kernel_rfl) rfl rfl w
theorem nil_deref (n : Int) (w : World) : Calls Try.prog 13 #[.pointer none, .int .i64 n] w (fun e w' => e = .returned (.tuple #[.int .i64 0, .int .i64 3]) ∧ Below w.heap.size w w') :=
  closed_ret (n := 40) (args := [.pointer none, .int .i64 n]) (ZP.of heap_zp) heap_mix (EN.of heap_en) (CK.of nil_code) (by kernel_rfl) rfl rfl w
theorem nil_set (n : Int) (w : World) : Calls Try.prog 22 #[.pointer none, .int .i64 n, .int .i64 n, .int .i64 n] w (fun e w' => e = .returned (.int .i64 3) ∧ Below w.heap.size w w') :=
  closed_ret (n := 40) (args := [.pointer none, .int .i64 n, .int .i64 n, .int .i64 n]) (ZP.of heap_zp) heap_mix (EN.of heap_en) (CK.of nil_code) (by kernel_rfl) rfl rfl w
theorem nil_cleanup (n : Int) (w : World) : Calls Try.prog 17 #[.pointer none, .int .i64 n, .int .i64 n] w (fun e w' => e = .returned (.int .i64 3) ∧ Below w.heap.size w w') :=
  closed_ret (n := 40) (args := [.pointer none, .int .i64 n, .int .i64 n]) (ZP.of heap_zp) heap_mix (EN.of heap_en) (CK.of nil_code) (by kernel_rfl) rfl rfl w
end Go.Ce
