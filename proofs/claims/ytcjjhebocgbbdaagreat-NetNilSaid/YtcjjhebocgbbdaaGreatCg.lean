/- The canonical machine for closed runs: slices cut, elements and fields addressed. -/
import Derived.Test.YtcjjhebocgbbdaaGreatCf
set_option linter.unusedSectionVars false
set_option linter.unusedVariables false
set_option linter.unusedSimpArgs false
namespace Go.Ce
open Go.RowKit (Below)

section
variable {P : Program} {w0 : World} {ρ : Ren} {W : CW} {w : World}

theorem siz_eq {t : TypeId} {n m : Nat} (h : siz P t = some n) (k : (P.info? t).map (·.size) = some m) : m = n := by
  unfold siz at h; rw [h] at k; cases k; rfl

theorem add_rel {a a' : Addr} (h : ARel ρ a a') (k : Nat) : ARel ρ ⟨a.block, a.off + k, none⟩ (a'.add k) := by
  obtain ⟨_, x, hx, rfl⟩ := h
  refine ⟨rfl, x, hx, ?_⟩
  rw [add_of]
  simp only [Addr.mk.injEq, and_true, true_and]; omega
theorem add_zero_rel (a : Addr) : a.add 0 = a := by simp [Addr.add]

theorem cslice_sound (hw : WRel P w0 ρ W w) {t : TypeId} {x x' v : Value} {lo lo' hi hi' mx mx' : Option Value} (h : cslice P W t x lo hi mx = some v) (hx : VRel ρ x x')
    (rl : ORelV ρ lo lo') (rh : ORelV ρ hi hi') (rm : ORelV ρ mx mx') : ∃ v', (Instr.sliceAt t x' lo' hi' mx').run P w = .ok v' w ∧ VRel ρ v v' := by
  unfold cslice at h
  split at h
  · rename_i elem a len cap ht
    obtain ⟨m, hm, h⟩ := optB_some h
    obtain ⟨hh, hhi, h⟩ := optB_some h
    obtain ⟨l, hl, h⟩ := optB_some h
    rw [cond_eq_ite] at h
    split at h
    · cases h
    rename_i hcond
    simp only [Bool.or_eq_true, Bool.not_eq_true', not_or, Bool.not_eq_true, Bool.not_eq_false] at hcond
    obtain ⟨⟨hcond1, hle⟩, hel⟩ := hcond
    have hle := Nat.le_of_ble_eq_true hle
    obtain ⟨s, hs, h⟩ := optB_some h
    cases h
    have run : ∀ (a' : Option Addr) (cap' : Nat), cap ≤ cap' → ∃ m', (Instr.sliceAt t (.slice a' len cap') lo' hi' mx').run P w = .ok (.slice (if m' = l then a' else a'.map (·.add (l * s))) (hh - l) (m' - l)) w ∧ ((mx = none ∧ m' = cap' ∧ m = cap) ∨ (m' = m ∧ m ≤ cap)) ∧ l ≤ hh := by
      intro a' cap' hc
      obtain ⟨m', hr, hcase, hlh⟩ := bounds_sound (P := P) true hm hhi hl rl rh rm hc hcond1
      refine ⟨m', ?_, hcase, hlh⟩
      simp only [Instr.sliceAt, Sem.run_bind, run_underlying' ht, Result.andThen_ok, Instr.slice, hr, run_sizeOf' hs, Sem.run_pure]
    cases hx with
    | snil =>
      obtain ⟨m', hr, hcase, hlh⟩ := run none cap (Nat.le_refl _)
      refine ⟨_, hr, ?_⟩
      have : m' = m := by rcases hcase with ⟨_, h1, h2⟩ | ⟨h1, _⟩ <;> omega
      subst this
      simp only [Option.map_none, ite_self, cond_eq_ite]
      exact .snil _ _
    | @slice a a' n c c' ha hc =>
      have hcc : cap ≤ c' := by
        rcases hc with rfl | ⟨_, _, _, _, _, h⟩
        · exact Nat.le_refl _
        · exact h
      obtain ⟨m', hr, hcase, hlh⟩ := run (some a') c' hcc
      refine ⟨_, hr, ?_⟩
      -- what is known of the block where no bound on the capacity is given
      have hel' : mx = none → c' = cap ∨ ∃ y, ρ a.block = some y ∧ 0 < s ∧ y.sz = s ∧ a.off + cap * s = y.n ∧ a.off + y.o + c' * s = y.n' := by
        intro hmx
        rcases hc with rfl | ⟨y, hy, hpos, h1, h2, _⟩
        · exact .inl rfl
        · right
          subst hmx
          simp only [Option.isSome_none, elemOk, ha.1, Bool.false_or] at hel
          split at hel
          · rename_i cc nn zz ee ho
            have := Nat.eq_of_beq_eq_true (hel.resolve_left (by simp))
            subst this
            obtain ⟨y', c2, _, hy', _, _, _, _, _, _, _, he, _⟩ := hw.cells ha ho
            rw [hy] at hy'; cases hy'
            have := siz_eq hs he
            rw [this] at h1 h2 hpos
            exact ⟨y, hy, hpos, this, h1, h2⟩
          · rename_i ff nn ee ho
            have := Nat.eq_of_beq_eq_true (hel.resolve_left (by simp))
            subst this
            obtain ⟨y', _, _, _, hy', _, _, _, _, _, he, _⟩ := hw.fixed ha ho
            rw [hy] at hy'; cases hy'
            have := siz_eq hs he
            rw [this] at h1 h2 hpos
            exact ⟨y, hy, hpos, this, h1, h2⟩
          · simp at hel
      by_cases e : m = l
      · have ehl : hh = l := by omega
        subst ehl
        simp only [cond_eq_ite, Nat.beq_eq, e, if_true, Nat.sub_self]
        obtain ⟨y, hy, rfl⟩ := ha.2
        by_cases em : m' = hh
        · subst em
          simp only [if_true, Nat.sub_self]
          exact .slice0 ha.1 hy rfl rfl (.inl rfl)
        · rw [if_neg em]
          rcases hcase with ⟨hmx, e1, e2⟩ | ⟨h1, _⟩
          · rcases hel' hmx with h1 | ⟨y', hy', hpos, hsz, h1, h2⟩
            · omega
            · rw [hy] at hy'; cases hy'
              simp only [Option.map_some, add_of]
              refine .slice0 ha.1 hy rfl rfl (.inr ⟨by omega, ?_⟩)
              rw [hsz]
              obtain ⟨d, hd⟩ : ∃ d, m' = hh + d := ⟨m' - hh, by omega⟩
              have e3 : m' - hh = d := by omega
              rw [e3]
              rw [← e1, hd, Nat.add_mul] at h2
              show a.off + y.o + hh * s + d * s = y.n'
              omega
          · omega
      · have hlm : l < m := by omega
        have em : m' ≠ l := by rcases hcase with ⟨_, h1, h2⟩ | ⟨h1, _⟩ <;> omega
        simp only [cond_eq_ite, Nat.beq_eq, e, if_false, em, Option.map_some]
        refine .slice _ (add_rel ha _) ?_
        rcases hcase with ⟨hmx, rfl, rfl⟩ | ⟨rfl, _⟩
        · rcases hel' hmx with rfl | ⟨y, hy, hpos, hsz, h1, h2⟩
          · exact .inl rfl
          · right
            refine ⟨y, hy, by omega, ?_, ?_, by omega⟩
            · rw [hsz]
              obtain ⟨d, rfl⟩ : ∃ d, m = l + d := ⟨m - l, by omega⟩
              have : l + d - l = d := by omega
              rw [this]
              rw [Nat.add_mul] at h1
              show a.off + l * s + d * s = y.n
              omega
            · rw [hsz]
              obtain ⟨d, rfl⟩ : ∃ d, m' = l + d := ⟨m' - l, by omega⟩
              have : l + d - l = d := by omega
              rw [this]
              rw [Nat.add_mul] at h2
              show a.off + l * s + y.o + d * s = y.n'
              omega
        · exact .inl rfl
    | @slice0 a a' c' y hq hy hb hsp hc =>
      obtain ⟨m', hr, hcase, hlh⟩ := run (some a') c' (Nat.zero_le _)
      refine ⟨_, hr, ?_⟩
      have hm0 : m = 0 := by rcases hcase with ⟨_, h1, h2⟩ | ⟨h1, h2⟩ <;> omega
      subst hm0
      have hh0 : hh = 0 := by omega
      subst hh0
      have hl0 : l = 0 := by omega
      subst hl0
      simp only [cond_eq_ite, Nat.beq_eq, if_true, Nat.sub_zero, Nat.zero_mul, Option.map_some, add_zero_rel, ite_self]
      refine .slice0 hq hy hb hsp ?_
      rcases hcase with ⟨_, rfl, _⟩ | ⟨rfl, _⟩
      · exact hc
      · exact .inl rfl
    | @slice00 a a' hq =>
      obtain ⟨m', hr, hcase, hlh⟩ := run (some a') 0 (Nat.le_refl _)
      refine ⟨_, hr, ?_⟩
      have hm0 : m = 0 := by rcases hcase with ⟨_, h1, h2⟩ | ⟨h1, h2⟩ <;> omega
      subst hm0
      have hh0 : hh = 0 := by omega
      subst hh0
      have hl0 : l = 0 := by omega
      subst hl0
      simp only [cond_eq_ite, Nat.beq_eq, if_true, Nat.sub_zero, Nat.zero_mul, Option.map_some, add_zero_rel, ite_self]
      have hm0' : m' = 0 := by rcases hcase with ⟨_, h1, _⟩ | ⟨h1, _⟩ <;> omega
      subst hm0'
      exact .slice00 hq
  · rename_i n elem a ht
    obtain ⟨m, hm, h⟩ := optB_some h
    obtain ⟨hh, hhi, h⟩ := optB_some h
    obtain ⟨l, hl, h⟩ := optB_some h
    rw [cond_eq_ite] at h
    split at h
    · cases h
    rename_i hcond
    simp only [Bool.or_eq_true, Bool.not_eq_true', not_or, Bool.not_eq_true, Bool.not_eq_false] at hcond
    obtain ⟨s, hs, h⟩ := optB_some h
    cases h
    cases hx with
    | @ptr a a' ha =>
      obtain ⟨m', hr, hcase, hlh⟩ := bounds_sound (P := P) false hm hhi hl rl rh rm (Nat.le_refl _) hcond.1
      have : m' = m := by rcases hcase with ⟨_, h1, h2⟩ | ⟨h1, _⟩ <;> omega
      subst this
      refine ⟨.slice (some (if m' = l then a' else a'.add (l * s))) (hh - l) (m' - l), ?_, ?_⟩
      · simp only [Instr.sliceAt, Sem.run_bind, run_underlying' ht, Result.andThen_ok, Instr.sureAddr, Sem.run_pure, hr, run_sizeOf' hs]
      · simp only [cond_eq_ite, Nat.beq_eq]
        by_cases e : m' = l
        · rw [if_pos e, if_pos e]; exact .slice _ ha (.inl rfl)
        · rw [if_neg e, if_neg e]; exact .slice _ (add_rel ha _) (.inl rfl)
  · cases h
end
end Go.Ce
