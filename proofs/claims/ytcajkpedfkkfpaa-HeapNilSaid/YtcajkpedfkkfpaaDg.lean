/- New. -/
import Derived.Test.YtcajkpedfkkfpaaDf
set_option linter.unusedSectionVars false
set_option linter.unusedVariables false
set_option linter.unusedSimpArgs false
namespace Go.Ce
open Go Go.Proofs
open Go.RowKit (Below)
theorem in_yes (a : Int) (h1 : decide (a ≥ (64 : Int)) = true) (h2 : decide (a ≤ (1000000 : Int)) = true) (w : World) : Calls Try.prog 25 #[.int .i64 a, .int .i64 64, .int .i64 1000000] w (fun e w' => e = .returned (.bool true) ∧ w' = w) := by
  go_enter Try.func25, Try.ntmps25
  go_wp2
  go_ret
  exact ⟨rfl, rfl⟩
theorem in_no1 (a : Int) (h1 : decide (a ≥ (64 : Int)) = false) (w : World) : Calls Try.prog 25 #[.int .i64 a, .int .i64 64, .int .i64 1000000] w (fun e w' => e = .returned (.bool false) ∧ w' = w) := by
  go_enter Try.func25, Try.ntmps25
  go_wp2
  go_ret
  exact ⟨rfl, rfl⟩
theorem in_no2 (a : Int) (h1 : decide (a ≥ (64 : Int)) = true) (h2 : decide (a ≤ (1000000 : Int)) = false) (w : World) : Calls Try.prog 25 #[.int .i64 a, .int .i64 64, .int .i64 1000000] w (fun e w' => e = .returned (.bool false) ∧ w' = w) := by
  go_enter Try.func25, Try.ntmps25
  go_wp2
  go_ret
  exact ⟨rfl, rfl⟩
theorem in_no (a : Int) (h : a < 64 ∨ 1000000 < a) (w : World) : Calls Try.prog 25 #[.int .i64 a, .int .i64 64, .int .i64 1000000] w (fun e w' => e = .returned (.bool false) ∧ w' = w) := by
  by_cases h1 : a ≥ 64
  · exact in_no2 a (by simpa using h1) (by simp; omega) w
  · exact in_no1 a (by simpa using h1) w

theorem new_out (a : Int) (h : a < 64 ∨ 1000000 < a) (w : World) : Calls Try.prog 7 #[.int .i64 a] w (fun e w' => e = .returned (.tuple #[.pointer none, .int .i64 1]) ∧ Below w.heap.size w w') := by
  have hc := in_no a h
  clear h
  go_enter Try.func7, Try.ntmps7
  go_wp2_with (first | (go_at_call 25; refine (hc _).mono ?_; rintro e w' ⟨rfl, rfl⟩))
  go_ret2
  exact ⟨rfl, Below.refl _ _⟩
end Go.Ce
