/- The canonical machine for closed runs: a region that draws its order does in the model what its run in order does. -/
import Derived.Test.YtcjjhebocgbbdaaGreatCr
set_option linter.unusedSectionVars false
set_option linter.unusedVariables false
set_option linter.unusedSimpArgs false
namespace Go.Ce
open Go.RowKit (Below)

/-- Where a run of a region stands: what is listed is done. -/
structure DInv (P : Program) (w0 : World) (ops : Array Oper) (fl : List (Nat × Value × Option CObj)) (st : Nat → DSt) (val : Nat → Value) (a0 : CAct) (W0 : CW) (ρ0 : Ren) (listed : Array Bool) (a' : Act) (w : World) (ρ : Ren) (p : Nat) : Prop where
  size : listed.size = ops.size
  closed : ∀ i, listed.getD i false = true → ∀ q, q ∈ prs ops i → listed.getD q false = true
  slots : ∀ d, VRel ρ (TT (dstOf ops) val a0.at (fun i => listed.getD i false) ops.size d) (a'.tmps.getD d undef)
  tsize : a'.tmps.size = a0.nt
  defers : All2 (DRel ρ) a0.defers a'.defers
  p_le : p ≤ ops.size
  wrs : ∀ j, j < ops.size → Wr st j → (listed.getD j false = true ↔ j < p)
  pw : p = ops.size ∨ Wr st p
  world : WRel P w0 ρ (st p).W w
  grow : Grow W0 ρ0 (st p).W ρ
  unborn : ∀ x, x ∈ fl → listed.getD x.1 false = false → ρ (nameOf x.2.1) = none ∧ nameOf x.2.1 < (st p).W.sz

section
variable {P : Program} {w0 : World} {cok : Nat → Bool → Code → Bool} {R : CRec} {ops : Array Oper} {fl : List (Nat × Value × Option CObj)} {st : Nat → DSt} {val : Nat → Value} {a0 : CAct} {W0 : CW} {ρ0 : Ren}
  {listed : Array Bool} {a' : Act} {w : World} {ρ : Ren} {p : Nat}

theorem getD_set_iff {i j : Nat} (hi : i < listed.size) : (listed.setIfInBounds i true).getD j false = true ↔ (listed.getD j false = true ∨ j = i) := by
  simp only [Array.getD_eq_getD_getElem?, Array.getElem?_setIfInBounds]
  by_cases e : i = j
  · subst e; simp [hi]
  · rw [if_neg e]; simp [Ne.symm e]

/-- One more is listed. -/
theorem DInv.next (h : DInv P w0 ops fl st val a0 W0 ρ0 listed a' w ρ p) {i : Nat} {o : Oper} (ho : ops[i]? = some o) (hd : ∀ t, o.dst = some t → t < a0.nt) (hun : listed.getD i false = false)
    (hpr : ∀ q, q ∈ prs ops i → listed.getD q false = true) (hlater : ∀ j, i < j → j < ops.size → dstOf ops i ≠ none → dstOf ops j = dstOf ops i → listed.getD j false = false)
    {v' : Value} {w2 : World} {ρ2 : Ren} {p2 : Nat} (he : Ext ρ ρ2) (hv : VRel ρ2 (val i) v') (hp2 : p2 ≤ ops.size) (hpw : p2 = ops.size ∨ Wr st p2)
    (hwrs : ∀ j, j < ops.size → Wr st j → ((listed.getD j false = true ∨ j = i) ↔ j < p2)) (hw2 : WRel P w0 ρ2 (st p2).W w2) (hg : Grow W0 ρ0 (st p2).W ρ2)
    (hub : ∀ x, x ∈ fl → listed.getD x.1 false = false → x.1 ≠ i → ρ2 (nameOf x.2.1) = none ∧ nameOf x.2.1 < (st p2).W.sz) :
    DInv P w0 ops fl st val a0 W0 ρ0 (listed.setIfInBounds i true) (a'.put o.dst v') w2 ρ2 p2 := by
  have hi : i < ops.size := (Array.getElem?_eq_some_iff.1 ho).1
  have hi' : i < listed.size := by rw [h.size]; exact hi
  have hdst : dstOf ops i = o.dst := by simp [dstOf, ho]
  refine ⟨by simp [h.size], ?_, ?_, ?_, ?_, hp2, ?_, hpw, hw2, hg, ?_⟩
  · intro j hj q hq
    rw [getD_set_iff hi'] at hj ⊢
    rcases hj with hj | rfl
    · exact .inl (h.closed j hj q hq)
    · exact .inl (hpr q hq)
  · intro d
    rw [TT_add (L := fun i => listed.getD i false) hi (fun j => getD_set_iff hi') hlater d, hdst]
    cases hdd : o.dst with
    | none =>
      rw [if_neg (by simp)]
      exact (h.slots d).mono he
    | some t =>
      have ht := hd t hdd
      have hget : (a'.put (some t) v').tmps.getD d undef = if t = d then v' else a'.tmps.getD d undef := by
        simp only [Act.put, Array.getD_eq_getD_getElem?, Array.getElem?_setIfInBounds]
        by_cases e : t = d
        · subst e; rw [if_pos rfl, if_pos rfl, if_pos (by rw [h.tsize]; exact ht)]; rfl
        · rw [if_neg e, if_neg e]
      rw [hget]
      by_cases e : t = d
      · subst e
        rw [if_pos rfl, if_pos rfl]; exact hv
      · rw [if_neg (by simpa using e), if_neg e]; exact (h.slots d).mono he
  · cases o.dst with
    | none => exact h.tsize
    | some t => simp only [Act.put, Array.size_setIfInBounds]; exact h.tsize
  · have : (a'.put o.dst v').defers = a'.defers := by cases o.dst <;> rfl
    rw [this]
    exact forall₂_mono (fun _ _ x => x.mono he) h.defers
  · intro j hj hwj
    rw [getD_set_iff hi']; exact hwrs j hj hwj
  · intro x hx hl
    have hne : ¬ (listed.getD x.1 false = true ∨ x.1 = i) := fun hh => by
      rw [(getD_set_iff hi').2 hh] at hl; cases hl
    have h1 : listed.getD x.1 false = false := by
      cases hh : listed.getD x.1 false with
      | false => rfl
      | true => exact (hne (.inl hh)).elim
    exact hub x hx h1 (fun e => hne (.inr e))

theorem wanted_of {s : DSt} {o : Oper} {b : Bool} (h : wantedC ops o s.a = some b) (hs : ∀ j want, o.guard = some (j, want) → ∀ d, (ops[j]?).bind (·.dst) = some d → VRel ρ (s.a.at d) (a'.tmps.getD d undef)) :
    Region.wanted o (yielded ops a'.tmps) = b := by
  unfold wantedC at h
  unfold Region.wanted
  split at h
  · rename_i hg
    cases h
    rw [hg]
  · rename_i j want hg
    rw [hg]
    simp only
    rw [yield_rel ops j (hs j want hg)]
    split at h
    · rename_i b' hb
      cases h
      rw [hb]
      cases b' <;> cases want <;> rfl
    · cases h

variable (hst : ∀ i o, ops[i]? = some o → StepK P R ops fl i o (st i) (st (i + 1)) (val i)) (h0 : (st 0).a = a0) (hdr : drawOk P ops = true)
include hst h0 hdr

/-- What an operation looks at is what it looks at in order. -/
theorem DInv.look (h : DInv P w0 ops fl st val a0 W0 ρ0 listed a' w ρ p) {i : Nat} {o : Oper} (ho : ops[i]? = some o) (hun : listed.getD i false = false) (hpr : ∀ q, q ∈ prs ops i → listed.getD q false = true) {d : Tmp} (hd : d ∈ o.looksAt ops) :
    VRel ρ ((st i).a.at d) (a'.tmps.getD d undef) := by
  have hi : i < ops.size := (Array.getElem?_eq_some_iff.1 ho).1
  have hs := h.slots d
  rw [st_at hst a0 h0 d i (by omega)]
  rwa [TT_look (i := i) (by omega)] at hs
  · intro j hj hdj
    have hoj : ops[j]? = some ops[j] := by simp [show j < ops.size by omega]
    have hdj : ops[j].dst = some d := by simpa [dstOf, hoj] using hdj
    rcases drawOk_pair hdr ho hoj hj with h1 | ⟨h1, _⟩
    · exact ancs_all (L := fun x => listed.getD x false = true) h.closed hpr h1
    · exact ((Oper.apart_spec h1).1 d hdj hd).elim
  · intro j hj1 hj2 hdj
    have hoj : ops[j]? = some ops[j] := by simp [hj2]
    have hdj : ops[j].dst = some d := by simpa [dstOf, hoj] using hdj
    by_cases e : j = i
    · subst e; exact hun
    · rcases drawOk_pair hdr hoj ho (show i < j by omega) with h1 | ⟨h1, _⟩
      · cases hl : listed.getD j false with
        | false => rfl
        | true =>
          have := ancs_all (L := fun x => listed.getD x false = true) h.closed (h.closed j hl) h1
          rw [hun] at this; cases this
      · exact ((Oper.apart_spec h1).2.2 d hdj hd).elim

theorem DInv.later (h : DInv P w0 ops fl st val a0 W0 ρ0 listed a' w ρ p) {i : Nat} {o : Oper} (ho : ops[i]? = some o) (hun : listed.getD i false = false) {t : Tmp} (hd : o.dst = some t) :
    ∀ j, i < j → j < ops.size → dstOf ops j = dstOf ops i → listed.getD j false = false := by
  intro j hj1 hj2 hdj
  have hoj : ops[j]? = some ops[j] := by simp [hj2]
  have hdi : dstOf ops i = some t := by simp [dstOf, ho, hd]
  have hdj : ops[j].dst = some t := by rw [hdi] at hdj; simpa [dstOf, hoj] using hdj
  rcases drawOk_pair hdr hoj ho hj1 with h1 | ⟨h1, _⟩
  · cases hl : listed.getD j false with
    | false => rfl
    | true =>
      have := ancs_all (L := fun x => listed.getD x false = true) h.closed (h.closed j hl) h1
      rw [hun] at this; cases this
  · exact ((Oper.apart_spec h1).2.1 t hd hdj).elim

/-- What holds in all memories in which an operation may come up holds in the one at hand. -/
theorem DInv.at_hand (h : DInv P w0 ops fl st val a0 W0 ρ0 listed a' w ρ p) {i : Nat} {o : Oper} (ho : ops[i]? = some o) (hun : listed.getD i false = false) (hpr : ∀ q, q ∈ prs ops i → listed.getD q false = true)
    (hws : (st 0).ws = []) {ok : CW → Bool} (hk : window ops i (ancs ops i) ok (st ops.size).ws (st ops.size).W = true) : ok (st p).W = true := by
  obtain ⟨A, h1, h2, h3⟩ := st_gap hst (p := p) ops.size h.p_le (Nat.le_refl _)
  rw [h1] at hk
  have := window_spec hk ?_ ?_
  · rwa [h3] at this
  · intro x hx
    obtain ⟨hx1, hx2, hx3⟩ := h2 x hx
    cases hm : memN (ancs ops i) x.1 with
    | false => rfl
    | true =>
      have := ancs_all (L := fun x => listed.getD x false = true) h.closed hpr hm
      have := (h.wrs x.1 hx2 hx3).1 this
      omega
  · intro j Wj B' hB
    obtain ⟨A2, g1, g2, _⟩ := st_gap hst (p := 0) p (Nat.zero_le _) h.p_le
    rw [hws, List.append_nil] at g1
    have hmem : (j, Wj) ∈ A2 := by rw [← g1, hB]; simp
    obtain ⟨_, hj, hwj⟩ := g2 _ hmem
    simp only at hj hwj
    have hl := (h.wrs j (Nat.lt_of_lt_of_le hj h.p_le) hwj).2 hj
    cases ha : anc ops j i with
    | false => rfl
    | true =>
      have := ancs_all (L := fun x => listed.getD x false = true) h.closed (h.closed j hl) (j := i) ha
      rw [hun] at this; cases this

/-- The write that comes up is the next in order. -/
theorem DInv.isNext (h : DInv P w0 ops fl st val a0 W0 ρ0 listed a' w ρ p) (hfl : ∀ i, i ∈ floats P ops → ∃ x, x ∈ fl ∧ x.1 = i) {i : Nat} {o : Oper} (ho : ops[i]? = some o) (hun : listed.getD i false = false) (hpr : ∀ q, q ∈ prs ops i → listed.getD q false = true)
    (hw : Wr st i) (hwr : wrOp P o = true) (hno : ∀ x, x ∈ fl → x.1 ≠ i) : i = p := by
  have hi : i < ops.size := (Array.getElem?_eq_some_iff.1 ho).1
  have hge : p ≤ i := by
    have := (h.wrs i hi hw)
    rw [hun] at this
    have hn : ¬ i < p := fun hh => by have := this.2 hh; cases this
    omega
  by_cases e : i = p
  · exact e
  · have hp : p < ops.size := by omega
    have hwp := h.pw.resolve_left (by omega)
    have hop : ops[p]? = some ops[p] := by simp [hp]
    rcases (hst p _ hop).wr with ⟨_, hwrp, hnop⟩ | ⟨hn, _, _⟩
    · rcases drawOk_pair hdr ho hop (show p < i by omega) with h1 | ⟨_, h1⟩
      · have := ancs_all (L := fun x => listed.getD x false = true) h.closed hpr h1
        have := (h.wrs p hp hwp).1 this
        omega
      · refine (h1 ⟨hwr, hwrp, fun hf => ?_, fun hf => ?_⟩).elim
        · obtain ⟨x, hx, e⟩ := hfl i hf; exact hno x hx e
        · obtain ⟨x, hx, e⟩ := hfl p hf; exact hnop x hx e
    · exact (hn hwp).elim
end
end Go.Ce
