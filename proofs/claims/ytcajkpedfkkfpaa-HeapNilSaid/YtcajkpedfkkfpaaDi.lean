/- The law of nil heaps, walked. -/
import Derived.Test.YtcajkpedfkkfpaaDc
import Derived.Test.YtcajkpedfkkfpaaDh
set_option linter.unusedSectionVars false
set_option linter.unusedVariables false
set_option linter.unusedSimpArgs false
namespace Go.Ce
open Go Go.Proofs
open Go.RowKit (Below)
theorem Below.then {a b c : World} (h : Below a.heap.size a b) (k : Below b.heap.size b c) : Below a.heap.size a c := h.trans (k.mono h.size)
set_option maxRecDepth 100000 in
theorem walk1 (a : Int) (h1 : decide (a < (64 : Int)) = true) (w : World) : Calls Try.prog 6 #[.int .i64 a] w (fun e w' => e = .returned (.bool true) ∧ Below w.heap.size w w') := by
  have hnew := new_out a (.inl (of_decide_eq_true h1))
  go_enter Try.func6, Try.ntmps6
  go_wp2_with (first
    | (go_at_call 8; refine (nil_make _ _).mono ?_; rintro e w' ⟨rfl, hb⟩)
    | (go_at_call 15; refine (nil_get _ _).mono ?_; rintro e w' ⟨rfl, hb⟩)
    | (go_at_call 10; refine (nil_flip _).mono ?_; rintro e w' ⟨rfl, hb⟩)
    | (go_at_call 20; refine (nil_step _ _).mono ?_; rintro e w' ⟨rfl, hb⟩)
    | (go_at_call 9; refine (nil_weak _ _).mono ?_; rintro e w' ⟨rfl, hb⟩)
    | (go_at_call 13; refine (nil_deref _ _).mono ?_; rintro e w' ⟨rfl, hb⟩)
    | (go_at_call 22; refine (nil_set _ _).mono ?_; rintro e w' ⟨rfl, hb⟩)
    | (go_at_call 17; refine (nil_cleanup _ _).mono ?_; rintro e w' ⟨rfl, hb⟩)
    | (go_at_call 11; refine (nil_11 _).mono ?_; rintro e w' ⟨rfl, hb⟩)
    | (go_at_call 21; refine (nil_21 _).mono ?_; rintro e w' ⟨rfl, hb⟩)
    | (go_at_call 23; refine (nil_23 _ _).mono ?_; rintro e w' ⟨rfl, hb⟩)
    | (go_at_call 12; refine (nil_12 _ _).mono ?_; rintro e w' ⟨rfl, hb⟩)
    | (go_at_call 24; refine (nil_24 _).mono ?_; rintro e w' ⟨rfl, hb⟩)
    | (go_at_call 18; refine (nil_18 _).mono ?_; rintro e w' ⟨rfl, hb⟩)
    | (go_at_call 7; refine (hnew _).mono ?_; rintro e w' ⟨rfl, hb⟩)
    | (go_at_call 16; refine (heap_alive _).mono ?_; rintro e w' ⟨rfl, hb⟩))
  go_ret
  refine ⟨rfl, ?_⟩
  repeat (first | assumption | exact Below.refl _ _ | (refine Below.then ?_ (by assumption)))
set_option maxRecDepth 100000 in
theorem walk2 (a : Int) (h1 : decide (a < (64 : Int)) = false) (h2 : decide (a > (1000000 : Int)) = true) (w : World) : Calls Try.prog 6 #[.int .i64 a] w (fun e w' => e = .returned (.bool true) ∧ Below w.heap.size w w') := by
  have hnew := new_out a (.inr (of_decide_eq_true h2))
  go_enter Try.func6, Try.ntmps6
  go_wp2_with (first
    | (go_at_call 8; refine (nil_make _ _).mono ?_; rintro e w' ⟨rfl, hb⟩)
    | (go_at_call 15; refine (nil_get _ _).mono ?_; rintro e w' ⟨rfl, hb⟩)
    | (go_at_call 10; refine (nil_flip _).mono ?_; rintro e w' ⟨rfl, hb⟩)
    | (go_at_call 20; refine (nil_step _ _).mono ?_; rintro e w' ⟨rfl, hb⟩)
    | (go_at_call 9; refine (nil_weak _ _).mono ?_; rintro e w' ⟨rfl, hb⟩)
    | (go_at_call 13; refine (nil_deref _ _).mono ?_; rintro e w' ⟨rfl, hb⟩)
    | (go_at_call 22; refine (nil_set _ _).mono ?_; rintro e w' ⟨rfl, hb⟩)
    | (go_at_call 17; refine (nil_cleanup _ _).mono ?_; rintro e w' ⟨rfl, hb⟩)
    | (go_at_call 11; refine (nil_11 _).mono ?_; rintro e w' ⟨rfl, hb⟩)
    | (go_at_call 21; refine (nil_21 _).mono ?_; rintro e w' ⟨rfl, hb⟩)
    | (go_at_call 23; refine (nil_23 _ _).mono ?_; rintro e w' ⟨rfl, hb⟩)
    | (go_at_call 12; refine (nil_12 _ _).mono ?_; rintro e w' ⟨rfl, hb⟩)
    | (go_at_call 24; refine (nil_24 _).mono ?_; rintro e w' ⟨rfl, hb⟩)
    | (go_at_call 18; refine (nil_18 _).mono ?_; rintro e w' ⟨rfl, hb⟩)
    | (go_at_call 7; refine (hnew _).mono ?_; rintro e w' ⟨rfl, hb⟩)
    | (go_at_call 16; refine (heap_alive _).mono ?_; rintro e w' ⟨rfl, hb⟩))
  go_ret
  refine ⟨rfl, ?_⟩
  repeat (first | assumption | exact Below.refl _ _ | (refine Below.then ?_ (by assumption)))
set_option maxRecDepth 100000 in
theorem walk3 (a : Int) (h1 : decide (a < (64 : Int)) = false) (h2 : decide (a > (1000000 : Int)) = false) (w : World) : Calls Try.prog 6 #[.int .i64 a] w (fun e w' => e = .returned (.bool true) ∧ Below w.heap.size w w') := by
  have hnew := new_in a (by simpa using h1) (by simpa using h2)
  go_enter Try.func6, Try.ntmps6
  go_wp2_with (first
    | (go_at_call 8; refine (nil_make _ _).mono ?_; rintro e w' ⟨rfl, hb⟩)
    | (go_at_call 15; refine (nil_get _ _).mono ?_; rintro e w' ⟨rfl, hb⟩)
    | (go_at_call 10; refine (nil_flip _).mono ?_; rintro e w' ⟨rfl, hb⟩)
    | (go_at_call 20; refine (nil_step _ _).mono ?_; rintro e w' ⟨rfl, hb⟩)
    | (go_at_call 9; refine (nil_weak _ _).mono ?_; rintro e w' ⟨rfl, hb⟩)
    | (go_at_call 13; refine (nil_deref _ _).mono ?_; rintro e w' ⟨rfl, hb⟩)
    | (go_at_call 22; refine (nil_set _ _).mono ?_; rintro e w' ⟨rfl, hb⟩)
    | (go_at_call 17; refine (nil_cleanup _ _).mono ?_; rintro e w' ⟨rfl, hb⟩)
    | (go_at_call 11; refine (nil_11 _).mono ?_; rintro e w' ⟨rfl, hb⟩)
    | (go_at_call 21; refine (nil_21 _).mono ?_; rintro e w' ⟨rfl, hb⟩)
    | (go_at_call 23; refine (nil_23 _ _).mono ?_; rintro e w' ⟨rfl, hb⟩)
    | (go_at_call 12; refine (nil_12 _ _).mono ?_; rintro e w' ⟨rfl, hb⟩)
    | (go_at_call 24; refine (nil_24 _).mono ?_; rintro e w' ⟨rfl, hb⟩)
    | (go_at_call 18; refine (nil_18 _).mono ?_; rintro e w' ⟨rfl, hb⟩)
    | (go_at_call 7; refine (hnew _).mono ?_; rintro e w' ⟨⟨p, rfl⟩, hb⟩)
    | (go_at_call 16; refine (heap_alive _).mono ?_; rintro e w' ⟨rfl, hb⟩))
  go_ret
  refine ⟨rfl, ?_⟩
  repeat (first | assumption | exact Below.refl _ _ | (refine Below.then ?_ (by assumption)))
end Go.Ce
