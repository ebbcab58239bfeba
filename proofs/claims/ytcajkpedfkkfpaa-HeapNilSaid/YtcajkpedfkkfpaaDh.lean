/- New, in range. -/
import Derived.Test.YtcajkpedfkkfpaaDg
set_option linter.unusedSectionVars false
set_option linter.unusedVariables false
set_option linter.unusedSimpArgs false
namespace Go.Ce
open Go Go.Proofs
open Go.RowKit (Below)
theorem mk_run (b : Int) (h0 : 0 ≤ b) (h1 : b ≤ 2000000) (w : World) : ∃ C, (Instr.makeSlice 26 (.int .i64 b) (.int .i64 b)).run Try.prog w = .ok (.slice (some ⟨w.heap.size, 0, none⟩) b.toNat b.toNat) (w.alloc (.cells C 3)) := by
  have hs : siz Try.prog 3 = some 1 := by kernel_rfl
  have hb : ((Try.prog.info? 3).map (·.bytes)) = some 8 := by kernel_rfl
  have hz : ((Try.prog.info? 3).bind (·.zero)).isSome = true := by kernel_rfl
  have ht : Try.prog.underlying 26 = some (.slice 3) := by kernel_rfl
  unfold siz at hs
  cases hi : Try.prog.info? 3 with
  | none => rw [hi] at hs; cases hs
  | some i =>
    rw [hi] at hs hb hz
    simp only [Option.map_some, Option.some.injEq, Option.bind_some] at hs hb hz
    obtain ⟨z, hz⟩ := Option.isSome_iff_exists.1 hz
    exact ⟨_, run_makeSlice w 26 3 i z ht hi hz .i64 .i64 b b h0 (Int.le_refl _) (by rw [hs]; omega) (by rw [hb]; omega) (by omega)⟩

theorem st_top (W : World) (m k : Nat) (cs : Array Value) (v : Value) (e : TypeId) (hm : W.heap.size = m) (hk : k < cs.size) (hv : oneCell v = true) :
    (store ⟨m, k, none⟩ v).run Try.prog (W.alloc (.cells cs e)) = .ok () ((W.alloc (.cells cs e)).setCell ⟨m, k, none⟩ v) := by
  have hb : (W.alloc (.cells cs e)).heap[m]? = some (.cells cs e (0, 0)) := by subst hm; exact Array.getElem?_push_size
  rw [run_store Try.prog _ _ v _ (oneCell_of hv)]
  have hc : cs[k]? = some cs[k] := by simp [hk]
  simp only [cell_of hb, hc, frozen_of hb, Bool.false_eq_true, if_false]

set_option maxRecDepth 100000 in
theorem new_in (a : Int) (h1 : 64 ≤ a) (h2 : a ≤ 1000000) (w : World) : Calls Try.prog 7 #[.int .i64 a] w (fun e w' => (∃ p, e = .returned (.tuple #[.pointer (some p), .int .i64 0])) ∧ Below w.heap.size w w') := by
  have hc := in_yes a (by simpa using h1) (by simpa using h2)
  obtain ⟨C, hm⟩ := mk_run (a + 1) (by omega) (by omega) w
  have hmm : ∀ (t : TypeId) (w : World), (Instr.makeMap t none).run Try.prog w = .ok (.map (some w.heap.size)) (w.alloc (.map #[] 0)) := fun _ _ => rfl
  go_enter Try.func7, Try.ntmps7
  go_wp2_with (first | (go_at_call 25; refine (hc _).mono ?_; rintro e w' ⟨rfl, rfl⟩))
  rw [st_top _ _ _ _ _ _ (by simp) (by simp) rfl]
  clear hm hmm hc
  go_wp2
  go_ret2
  refine ⟨⟨_, rfl⟩, ?_⟩
  repeat (first | exact Below.refl _ _ | (refine Below.alloc ?_ (by first | exact Nat.le_refl _ | (simp only [Go.World.alloc, Array.size_push]; omega)) _))
end Go.Ce
