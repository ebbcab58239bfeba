/- The canonical machine for closed runs: regions, whole. -/
import Derived.Test.YtcjjhebocgbbdaaGreatCt
set_option linter.unusedSectionVars false
set_option linter.unusedVariables false
set_option linter.unusedSimpArgs false
namespace Go.Ce
open Go.RowKit (Below)

theorem rep_false (n i : Nat) : (Array.replicate n false).getD i false = false := by
  rw [Array.getD_eq_getD_getElem?, Array.getElem?_replicate]; split <;> rfl

theorem cnt_le {p q : Nat → Bool} : ∀ (l : List Nat), (∀ j, j ∈ l → q j = true → p j = true) → (l.filter q).length ≤ (l.filter p).length
  | [], _ => Nat.le_refl _
  | x :: l, h => by
    have ih := cnt_le l (fun j hj => h j (by simp [hj]))
    simp only [List.filter_cons]
    cases hq : q x with
    | true => rw [h x (by simp) hq]; simpa using ih
    | false => cases p x <;> simp <;> omega
theorem cnt_lt {p q : Nat → Bool} {i : Nat} (hp : p i = true) (hq : q i = false) : ∀ (l : List Nat), (∀ j, j ∈ l → q j = true → p j = true) → i ∈ l → (l.filter q).length < (l.filter p).length
  | [], _, hi => by cases hi
  | x :: l, h, hi => by
    simp only [List.filter_cons]
    rcases List.mem_cons.1 hi with rfl | hi
    · rw [hp, hq]
      have := cnt_le l (fun j hj => h j (by simp [hj]))
      simp; omega
    · have ih := cnt_lt hp hq l (fun j hj => h j (by simp [hj])) hi
      cases hqx : q x with
      | true => rw [h x (by simp) hqx]; simpa using ih
      | false => cases p x <;> simp <;> omega

section
variable {P : Program} {w0 : World} {cok : Nat → Bool → Code → Bool} {R : CRec} {ops : Array Oper} {fl : List (Nat × Value × Option CObj)} {st : Nat → DSt} {val : Nat → Value} {a0 : CAct} {W0 : CW} {ρ0 : Ren}
  {ro' : Option Nat} {n : Nat} {Q : Exit → Act → World → Prop}

theorem ready_all {listed : Array Bool} (hdr : drawOk P ops = true) (hs : listed.size = ops.size) (h : Region.ready .any ops listed = []) : ∀ i, i < ops.size → listed.getD i false = true := by
  intro i
  induction i using Nat.strongRecOn with
  | _ i ih =>
    intro hi
    cases hl : listed.getD i false with
    | true => rfl
    | false =>
      have ho : ops[i]? = some ops[i] := by simp [hi]
      have : i ∈ Region.ready .any ops listed := by
        refine mem_ready.2 ⟨?_, ops[i], ho, fun e he hb => ?_⟩
        · have hi' : i < listed.size := by omega
          simpa [Array.getD_eq_getD_getElem?, hi'] using hl
        · have hq : e.on ∈ prs ops i := by
            simp only [prs, ho, List.mem_map, List.mem_filter]
            exact ⟨e, ⟨by simpa using he, hb⟩, rfl⟩
          have := drawOk_prs hdr hi _ hq
          exact ih _ this (by omega)
      rw [h] at this; cases this

theorem draw_any (hz : ZP P) (hR : RS P w0 cok R)
    (hst : ∀ i o, ops[i]? = some o → StepK P R ops fl i o (st i) (st (i + 1)) (val i)) (h0 : (st 0).a = a0) (hws : (st 0).ws = []) (hdr : drawOk P ops = true) (hok : opsOk a0.nt ro'.isSome ops.toList = true)
    (hfl : ∀ i, i ∈ floats P ops → ∃ x, x ∈ fl ∧ x.1 = i) (hflk : ∀ x, x ∈ fl → W0.sz ≤ nameOf x.2.1 ∧ FK P ops x) (hflp : fl.Pairwise (fun x y => nameOf x.2.1 ≠ nameOf y.2.1))
    (hwin : ∀ x, x ∈ fl → window ops x.1 (ancs ops x.1) (fun W => initObj (W.obj (nameOf x.2.1)) x.2.2) (st ops.size).ws (st ops.size).W = true)
    (hrd : ∀ i o a v, (i, o, a, v) ∈ (st ops.size).rd → window ops i (ancs ops i) (fun W => match cop P o a.eval W with | some [(.value u, _)] => veq 8 u v | _ => false) (st ops.size).ws (st ops.size).W = true)
    (hQ : ∀ e a2 w2, COut P w0 ρ0 W0 a0.nt [(.normal, (st ops.size).a, (st ops.size).W)] e a2 w2 → Q e a2 w2) :
    ∀ (fuel : Nat) (listed : Array Bool) (a' : Act) (w : World) (ρ : Ren) (p : Nat), DInv P w0 ops fl st val a0 W0 ρ0 listed a' w ρ p → ((List.range ops.size).filter fun i => !listed.getD i false).length ≤ fuel →
      wpAnyIn (fenceOf ro') n P .any ops Q fuel listed a' w := by
  have fin : ∀ (listed : Array Bool) (a' : Act) (w : World) (ρ : Ren) (p : Nat), DInv P w0 ops fl st val a0 W0 ρ0 listed a' w ρ p → (∀ i, i < ops.size → listed.getD i false = true) → Q .normal a' w := by
    intro listed a' w ρ p h hall
    have hp : p = ops.size := by
      rcases h.pw with e | hw
      · exact e
      · by_cases e : p = ops.size
        · exact e
        · have hlt : p < ops.size := by have := h.p_le; omega
          have := (h.wrs p hlt hw).1 (hall p hlt)
          omega
    subst hp
    obtain ⟨hnt, hdf⟩ := st_nt hst a0 h0 ops.size (Nat.le_refl _)
    refine hQ _ _ _ ⟨.normal, _, _, ρ, List.mem_singleton.2 rfl, h.grow, .normal, ⟨fun d => ?_, by rw [hnt]; exact h.tsize, by rw [hdf]; exact h.defers⟩, h.world, hnt⟩
    rw [st_at hst a0 h0 d ops.size (Nat.le_refl _)]
    have := h.slots d
    rwa [TT_congr (L' := fun _ => true) fun j hj _ => hall j hj] at this
  intro fuel
  induction fuel with
  | zero =>
    intro listed a' w ρ p h hc
    have hall : ∀ i, i < ops.size → listed.getD i false = true := by
      intro i hi
      cases hl : listed.getD i false with
      | true => rfl
      | false =>
        have hm : i ∈ (List.range ops.size).filter fun i => !listed.getD i false := List.mem_filter.2 ⟨List.mem_range.2 hi, by rw [hl]; rfl⟩
        have := List.length_pos_of_mem hm
        omega
    refine ⟨?_, fin _ _ _ _ _ h hall⟩
    cases hr : Region.ready .any ops listed with
    | nil => rfl
    | cons i l =>
      obtain ⟨h1, o, ho, _⟩ := mem_ready.1 (show i ∈ Region.ready .any ops listed by rw [hr]; simp)
      have hi : i < ops.size := (Array.getElem?_eq_some_iff.1 ho).1
      have h2 := hall i hi
      have hi' : i < listed.size := by rw [h.size]; exact hi
      simp [hi'] at h1 h2
      rw [h1] at h2; cases h2
  | succ fuel ih =>
    intro listed a' w ρ p h hc
    refine ⟨fun hr => fin _ _ _ _ _ h (ready_all hdr h.size hr), fun i hi => ?_⟩
    refine draw_step hz hR hst h0 hws hdr hok hfl hflk hflp hwin hrd h hi fun a2 w2 ρ2 p2 h2 => ih _ _ _ _ _ h2 ?_
    obtain ⟨h1, o, ho, _⟩ := mem_ready.1 hi
    have hilt : i < ops.size := (Array.getElem?_eq_some_iff.1 ho).1
    have hi' : i < listed.size := by rw [h.size]; exact hilt
    have hun : listed.getD i false = false := by simpa [Array.getD_eq_getD_getElem?, hi'] using h1
    have := cnt_lt (p := fun i => !listed.getD i false) (q := fun j => !(listed.setIfInBounds i true).getD j false) (i := i) (by simp only [hun]; rfl)
      (by simp only [(getD_set_iff hi' (j := i)).2 (.inr rfl)]; rfl) (List.range ops.size) (fun j _ hj => by
        cases hl : listed.getD j false with
        | false => rfl
        | true =>
          simp only [(getD_set_iff hi').2 (.inl hl)] at hj
          cases hj) (List.mem_range.2 hilt)
    omega

theorem evDraw_sound (hz : ZP P) (hR : RS P w0 cok R) (hmix : P.follows .mixedOrders = true) {id : Nat} {a : CAct} {W : CW} {outs : List (Exit × CAct × CW)} {ρ : Ren} {a' : Act} {w : World} (h : evDraw P R ops a W = some outs)
    (hdr : drawOk P ops = true) (hok : opsOk a.nt ro'.isSome ops.toList = true) (ha : AR ρ a a') (hw : WRel P w0 ρ W w) (hQ : ∀ e a2 w2, COut P w0 ρ W a.nt outs e a2 w2 → Q e a2 w2) :
    (Code.region id ops true).wpIn (fenceOf ro') n P Q a' w := by
  refine wpIn_region_any hmix ?_
  unfold evDraw at h
  split at h
  · cases h
  rename_i fl W1 hpre
  split at h
  · cases h
  rename_i s hrun
  rw [cond_eq_ite] at h
  split at h
  rotate_left
  · cases h
  rename_i hreads
  rw [cond_eq_ite] at h
  split at h
  rotate_left
  · cases h
  rename_i hfloats
  cases h
  obtain ⟨hw1, hsz, hflk, hflp, hfl⟩ := preFloat_spec hpre (fun i hi => floats_kind hi) (hw.drew (w.drawn + 1))
  obtain ⟨st, val, s0, sn, hst⟩ := run_states hrun
  subst sn
  have e0 : (st 0).a = a := by rw [s0]
  have e1 : (st 0).W = W1 := by rw [s0]
  obtain ⟨p, _, p2, p3, p4, p5⟩ := st_next hst ops.size 0 (by omega)
  rw [e1] at p5
  refine draw_any (a0 := a) (W0 := W) (ρ0 := ρ) hz hR hst e0 (by rw [s0]) hdr hok hfl (fun x hx => ⟨(hflk x hx).1, (hflk x hx).2.2⟩) hflp ?_ ?_ hQ ops.size _ a' _ ρ p ?_ ?_
  · intro x hx
    have hk := (List.all_eq_true.1 hfloats) x hx
    obtain ⟨_, _, o, _, _, hcase⟩ := hflk x hx
    obtain ⟨i, v, ob⟩ := x
    simp only at hk hcase ⊢
    rcases hcase with ⟨t, z, s, b, _, _, _, hv, _⟩ | ⟨t, b, _, hv, _⟩ | ⟨t, l, c, b, n, m, _, hv⟩
    · rw [hv] at hk ⊢; exact hk
    · rw [hv] at hk ⊢; exact hk
    · rw [hv] at hk ⊢; exact hk
  · intro i o a2 v hm
    exact (List.all_eq_true.1 hreads) _ hm
  · refine ⟨by simp, ?_, ?_, ha.size, ha.defers, p2, ?_, p3, by rw [p5]; exact hw1, ⟨.refl _, fun _ _ => rfl, by rw [p5]; exact hsz⟩, ?_⟩
    · intro i hi
      rw [rep_false] at hi; cases hi
    · intro d
      have : TT (dstOf ops) val a.at (fun i => (Array.replicate ops.size false).getD i false) ops.size d = a.at d := by
        rw [TT_top (i := 0) (Nat.zero_le _) fun j _ hj _ => rep_false _ _]
        rfl
      rw [this]; exact ha.tmps d
    · intro j hj hwj
      constructor
      · intro hh; rw [rep_false] at hh; cases hh
      · intro hh; exact (p4 j (Nat.zero_le _) hh hwj).elim
    · intro x hx _
      obtain ⟨k1, k2, _⟩ := hflk x hx
      refine ⟨?_, by rw [p5]; exact k2⟩
      cases hr : ρ (nameOf x.2.1) with
      | none => rfl
      | some y => have := hw.dom _ _ hr; omega
  · refine Nat.le_trans (List.length_filter_le _ _) ?_
    simp
end
end Go.Ce
