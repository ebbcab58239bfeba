/- What a closed run asks of the program. -/
import Derived.Test.YtcajkpedfkkfpaaProg
import Derived.Test.YtcajkpedfkkfpaaCz
set_option linter.unusedSectionVars false
set_option linter.unusedVariables false
set_option linter.unusedSimpArgs false
namespace Go.Ce
open Go Go.Proofs

def zpOk (P : Program) : Bool := (List.range P.types.size).all fun t => match zer P t with | some z => plainV 8 z | none => true
theorem ZP.of {P : Program} (h : zpOk P = true) : ZP P := by
  intro t z hz
  have hlt : t < P.types.size := by
    unfold zer at hz
    rw [cond_eq_ite] at hz
    split at hz
    · rename_i h1; exact Nat.le_of_ble_eq_true h1
    · cases hz
  have := List.all_eq_true.1 h t (List.mem_range.2 hlt)
  rw [hz] at this
  exact ⟨8, this⟩

def enOk (P : Program) : Bool := P.funcs.toList.all fun fn => !(fn.name == "runtime.NumGoroutine")
theorem EN.of {P : Program} (h : enOk P = true) : EN P := by
  intro f fn hf hb args w
  have hm : fn ∈ P.funcs.toList := by simpa using Array.mem_of_getElem? hf
  have hn := List.all_eq_true.1 h fn hm
  have hn : (fn.name == "runtime.NumGoroutine") = false := by simpa using hn
  have hb : fn.body.isNone = false := by cases hx : fn.body <;> simp_all
  simp only [callFunc, Sem.run_bind, run_program, Result.andThen_ok, hf, hn, hb, Bool.false_eq_true, if_false, Sem.run_pure]

theorem heap_zp : zpOk Try.prog = true := by kernel_rfl
theorem heap_en : enOk Try.prog = true := by kernel_rfl
theorem heap_mix : Try.prog.follows .mixedOrders = true := by kernel_rfl
end Go.Ce
