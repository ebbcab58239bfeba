/- The canonical machine for closed runs: regions that draw their order, in the model. -/
import Derived.Test.YtcjjhebocgbbdaaGreatCq
set_option linter.unusedSectionVars false
set_option linter.unusedVariables false
set_option linter.unusedSimpArgs false
namespace Go.Ce
open Go.RowKit (Below)

section
variable {P : Program} {w0 : World} {ρ : Ren} {W : CW} {w : World}

/-- A block that no name of the model's stands for. -/
theorem WRel.pre (h : WRel P w0 ρ W w) (o : CObj) : WRel P w0 ρ (W.new o) w := by
  have old : ∀ i u x, (W.new o).h.get i = some u → ρ i = some x → W.h.get i = some u := fun i u x hu hx => by
    have := h.dom i x hx
    simp only [CW.new, Tr.get_set] at hu
    rw [if_neg (by omega)] at hu; exact hu
  refine ⟨fun i x hx => Nat.lt_succ_of_lt (h.dom i x hx), fun i u hu => ?_, fun i u x hu hd hx => h.live i u x (old i u x hu hx) hd hx,
    fun i j u v x y hu hud hv hvd hx hy => h.inj i j u v x y (old i u x hu hx) hud (old j v y hv hy) hvd hx hy, h.below⟩
  show i < W.sz + 1
  simp only [CW.new, Tr.get_set] at hu
  split at hu
  · omega
  · have := h.top i u hu; omega

/-- A block of the machine's comes to be in the model. -/
theorem WRel.birth (h : WRel P w0 ρ W w) {b : Nat} (hb : ρ b = none) (hlt : b < W.sz) {u : CObj} (hu : W.obj b = some u) {x : Info} (hx : x.b = w.heap.size) {o' : Obj}
    (hr : ORel P (fun i => if i = b then some x else ρ i) x u o') (hm : u.mut = true := by rfl) : Ext ρ (fun i => if i = b then some x else ρ i) ∧ WRel P w0 (fun i => if i = b then some x else ρ i) W { w with heap := w.heap.push o' } := by
  have hext : Ext ρ (fun i => if i = b then some x else ρ i) := fun i y hy => by
    show (if i = b then some x else ρ i) = some y
    by_cases e : i = b
    · subst e; rw [hb] at hy; cases hy
    · rw [if_neg e]; exact hy
  have hw0 : w0.heap.size ≤ w.heap.size := h.below.size
  have hold : ∀ i u y, W.h.get i = some u → u ≠ .dead → ρ i = some y → y.b < w.heap.size := fun i u y hu hd hy => by
    obtain ⟨o', ho', _, _⟩ := h.live i u y hu hd hy
    exact (Array.getElem?_eq_some_iff.1 ho').1
  refine ⟨hext, ?_, h.top, ?_, ?_, ?_⟩
  · intro i y hy
    by_cases e : i = b
    · omega
    · have : ρ i = some y := by simpa [e] using hy
      exact h.dom i y this
  · intro i v y hv hd hy
    by_cases e : i = b
    · subst e
      have hy : some x = some y := by simpa using hy
      cases hy
      have : W.h.get i = some u := hu
      rw [hv] at this; cases this
      refine ⟨o', ?_, hr, fun _ => by omega, fun hf => by rw [hm] at hf; cases hf⟩
      show (w.heap.push o')[x.b]? = _
      rw [hx]; simp
    · have hy : ρ i = some y := by simpa [e] using hy
      obtain ⟨u', hu', hru, hfr⟩ := h.live i v y hv hd hy
      refine ⟨u', ?_, hru.mono hext, hfr⟩
      have hl := (Array.getElem?_eq_some_iff.1 hu').1
      show (w.heap.push o')[y.b]? = _
      rw [Array.getElem?_push, if_neg (by omega)]; exact hu'
  · intro i j v v' y z hv hvd hv' hvd' hy hz hyz
    by_cases ei : i = b
    · by_cases ej : j = b
      · omega
      · have hz : ρ j = some z := by simpa [ej] using hz
        have hy : some x = some y := by simpa [ei] using hy
        cases hy
        have := hold j v' z hv' (CObj.mut_ne hvd') hz
        omega
    · have hy : ρ i = some y := by simpa [ei] using hy
      by_cases ej : j = b
      · have hz : some x = some z := by simpa [ej] using hz
        cases hz
        have := hold i v y hv (CObj.mut_ne hvd) hy
        omega
      · have hz : ρ j = some z := by simpa [ej] using hz
        exact h.inj i j v v' y z hv hvd hv' hvd' hy hz hyz
  · exact ⟨h.below.os, h.below.tape, h.below.output, by show w0.heap.size ≤ (w.heap.push o').size; rw [Array.size_push]; omega, fun k hk => by
      show (w.heap.push o')[k]? = _
      rw [Array.getElem?_push, if_neg (by omega)]; exact h.below.block k hk⟩

def nameOf : Value → Nat
  | .pointer (some p) => p.block
  | .slice (some p) _ _ => p.block
  | .map (some r) => r
  | _ => 0

/-- What is known of an allocation made ahead. -/
def FK (P : Program) (ops : Array Oper) (x : Nat × Value × Option CObj) : Prop :=
  ∃ o, ops[x.1]? = some o ∧ o.guard = none ∧ ((∃ t z s b, o.op = .alloc t ∧ zer P t = some z ∧ siz P t = some s ∧ x.2.1 = .pointer (some ⟨b, 0, none⟩) ∧ x.2.2 = some (.cells .nil z.cells.size z.cells t)) ∨
    (∃ t b, o.op = .makeMap t none ∧ x.2.1 = .map (some b) ∧ x.2.2 = some (.map [] 0)) ∨
    (∃ t l c b n m, o.op = .makeSlice t l c ∧ x.2.1 = .slice (some ⟨b, 0, none⟩) n m))

theorem preFloat_spec {ops : Array Oper} {a : CAct} : ∀ {is : List Nat} {W : CW} {fl : List (Nat × Value × Option CObj)} {W1 : CW}, preFloat P ops a is W = some (fl, W1) → (∀ i, i ∈ is → ∃ o, ops[i]? = some o ∧ floatKind P ops o = true) → WRel P w0 ρ W w →
    WRel P w0 ρ W1 w ∧ W.sz ≤ W1.sz ∧ (∀ x, x ∈ fl → W.sz ≤ nameOf x.2.1 ∧ nameOf x.2.1 < W1.sz ∧ FK P ops x) ∧ fl.Pairwise (fun x y => nameOf x.2.1 ≠ nameOf y.2.1) ∧ (∀ i, i ∈ is → ∃ x, x ∈ fl ∧ x.1 = i) := by
  intro is
  induction is with
  | nil =>
    intro W fl W1 h _ hw
    simp only [preFloat, Option.some.injEq, Prod.mk.injEq] at h
    obtain ⟨rfl, rfl⟩ := h
    exact ⟨hw, Nat.le_refl _, (fun x hx => by cases hx), .nil, (fun i hi => by cases hi)⟩
  | cons i is ih =>
    intro W fl W1 h hk hw
    obtain ⟨o, ho, hf⟩ := hk i (by simp)
    simp only [preFloat, ho] at h
    split at h
    · rename_i v W2 hc
      cases hp : preFloat P ops a is W2 with
      | none => rw [hp] at h; cases h
      | some q =>
        obtain ⟨l, W3⟩ := q
        rw [hp] at h
        simp only [Option.some.injEq, Prod.mk.injEq] at h
        obtain ⟨rfl, rfl⟩ := h
        have key : nameOf v = W.sz ∧ (∃ u, W2 = W.new u) ∧ FK P ops (i, v, W2.obj W.sz) := by
          unfold floatKind at hf
          split at hf
          · rename_i t h1 h2
            simp only [cop, h1] at hc
            split at hc
            · rename_i z hz
              split at hc
              · rename_i s hs
                cases hc
                exact ⟨rfl, ⟨_, rfl⟩, o, ho, h2, .inl ⟨t, z, s, W.sz, h1, hz, hs, rfl, by simp [CW.obj, CW.new, Tr.get_set]⟩⟩
              · cases hc
            · cases hc
          · rename_i t h1 h2
            simp only [cop, h1] at hc
            cases hc
            exact ⟨rfl, ⟨_, rfl⟩, o, ho, h2, .inr (.inl ⟨t, W.sz, h1, rfl, by simp [CW.obj, CW.new, Tr.get_set]⟩)⟩
          · rename_i t l c h1 h2
            simp only [cop, h1] at hc
            obtain ⟨v', W1', hv, he⟩ := vwmatch hc
            simp only [List.cons.injEq, Prod.mk.injEq, CNext.value.injEq, and_true] at he
            obtain ⟨rfl, rfl⟩ := he
            split at hv
            · obtain ⟨s, hs, hv⟩ := optB_some hv
              obtain ⟨z, hz, hv⟩ := optB_some hv
              rw [cond_eq_ite] at hv
              split at hv
              · cases hv
                exact ⟨rfl, ⟨_, rfl⟩, o, ho, h2, .inr (.inr ⟨t, l, c, W.sz, _, _, h1, rfl⟩)⟩
              · cases hv
            · cases hv
          · cases hf
        obtain ⟨hname, ⟨u, rfl⟩, hfk⟩ := key
        obtain ⟨h1, h2, h3, h4, h5⟩ := ih hp (fun j hj => hk j (by simp [hj])) (hw.pre u)
        have h2' : W.sz + 1 ≤ W3.sz := h2
        refine ⟨h1, by omega, ?_, ?_, ?_⟩
        · intro x hx
          rcases List.mem_cons.1 hx with rfl | hx
          · exact ⟨by simp only [hname]; exact Nat.le_refl _, by simp only [hname]; omega, hfk⟩
          · obtain ⟨a1, a2, a3⟩ := h3 x hx
            have a1 : W.sz + 1 ≤ nameOf x.2.1 := a1
            exact ⟨by omega, a2, a3⟩
        · refine List.pairwise_cons.2 ⟨fun y hy => ?_, h4⟩
          obtain ⟨a1, _, _⟩ := h3 y hy
          have a1 : W.sz + 1 ≤ nameOf y.2.1 := a1
          simp only [hname]; omega
        · intro j hj
          rcases List.mem_cons.1 hj with rfl | hj
          · exact ⟨_, List.mem_cons_self, rfl⟩
          · obtain ⟨x, hx, e⟩ := h5 j hj
            exact ⟨x, by simp [hx], e⟩
    · cases h

theorem floats_kind {ops : Array Oper} {i : Nat} (h : i ∈ floats P ops) : ∃ o, ops[i]? = some o ∧ floatKind P ops o = true := by
  simp only [floats, List.mem_filter] at h
  obtain ⟨_, h⟩ := h
  split at h
  · rename_i o ho
    simp only [Bool.and_eq_true] at h
    exact ⟨o, ho, h.1⟩
  · cases h

theorem drawOk_prs {ops : Array Oper} (h : drawOk P ops = true) {i : Nat} (hi : i < ops.size) : ∀ q, q ∈ prs ops i → q < i := by
  simp only [drawOk, List.all_eq_true, List.mem_range] at h
  have ho : ops[i]? = some ops[i] := by simp [hi]
  have h := h i hi
  rw [ho] at h
  simp only [Bool.and_eq_true, List.all_eq_true] at h
  intro q hq
  have := h.1 q hq
  exact Nat.le_of_ble_eq_true this

theorem drawOk_pair {ops : Array Oper} (h : drawOk P ops = true) {i j : Nat} {oi oj : Oper} (hi : ops[i]? = some oi) (hj : ops[j]? = some oj) (hlt : j < i) :
    memN (ancs ops i) j = true ∨ (oj.apart ops oi = true ∧ ¬ (wrOp P oi = true ∧ wrOp P oj = true ∧ i ∉ floats P ops ∧ j ∉ floats P ops)) := by
  have hi' : i < ops.size := (Array.getElem?_eq_some_iff.1 hi).1
  simp only [drawOk, List.all_eq_true, List.mem_range] at h
  have h := h i hi'
  rw [hi] at h
  simp only [Bool.and_eq_true, List.all_eq_true, List.mem_range, Bool.or_eq_true] at h
  rcases h.2 j hlt with h1 | h1
  · exact .inl h1
  · right
    rw [hj] at h1
    simp only [Bool.and_eq_true, Bool.not_eq_true', Bool.and_eq_false_iff] at h1
    refine ⟨h1.1, ?_⟩
    rintro ⟨w1, w2, f1, f2⟩
    have f1 : memN (floats P ops) i = false := by
      cases hh : memN (floats P ops) i with
      | false => rfl
      | true => exact (f1 (memN_iff.1 hh)).elim
    have f2 : memN (floats P ops) j = false := by
      cases hh : memN (floats P ops) j with
      | false => rfl
      | true => exact (f2 (memN_iff.1 hh)).elim
    simp [w1, w2, f1, f2] at h1

theorem initObj_spec {a b : Option CObj} (h : initObj a b = true) : a = b := by
  unfold initObj at h
  split at h
  · rfl
  · rename_i n z e m y f
    simp only [Bool.and_eq_true] at h
    have h1 := Nat.eq_of_beq_eq_true h.1.1.1
    have h2 := Nat.eq_of_beq_eq_true h.1.1.2
    rw [h1, h2, arr_ext h.1.2 h.2 (fun v w => veq_sound 6 v w)]
  · cases h
end

/-! ### A run in order, and any run -/

section
variable {P : Program} {w0 : World} {cok : Nat → Bool → Code → Bool} {R : CRec} {ops : Array Oper} {fl : List (Nat × Value × Option CObj)} {st : Nat → DSt} {val : Nat → Value}

def dstOf (ops : Array Oper) (i : Nat) : Option Tmp := (ops[i]?).bind (·.dst)
def Wr (st : Nat → DSt) (i : Nat) : Prop := (st (i + 1)).ws = (i, (st i).W) :: (st i).ws

theorem StepK.put {i : Nat} {o : Oper} {s s' : DSt} {v : Value} (h : StepK P R ops fl i o s s' v) : s'.a = s.a.put o.dst v := by
  cases h <;> (rename_i he; rw [he])

theorem StepK.wr {i : Nat} {o : Oper} (h : StepK P R ops fl i o (st i) (st (i + 1)) (val i)) :
    (Wr st i ∧ wrOp P o = true ∧ ∀ x, x ∈ fl → x.1 ≠ i) ∨ (¬ Wr st i ∧ (st (i + 1)).W = (st i).W ∧ (st (i + 1)).ws = (st i).ws) := by
  have no : ∀ {l : List (Nat × CW)} {x : Nat × CW}, l ≠ x :: l := fun h => by have := congrArg List.length h; simp at this
  cases h with
  | float ob h1 hck he => right; exact ⟨by unfold Wr; rw [he]; exact no, by rw [he], by rw [he]⟩
  | off h1 h2 h3 he => right; exact ⟨by unfold Wr; rw [he]; exact no, by rw [he], by rw [he]⟩
  | pure W1 h1 h2 h3 h4 he => right; exact ⟨by unfold Wr; rw [he]; exact no, by rw [he], by rw [he]⟩
  | read W1 h1 h2 h3 h4 he => right; exact ⟨by unfold Wr; rw [he]; exact no, by rw [he], by rw [he]⟩
  | value W1 h1 h2 h3 h4 he => left; exact ⟨by unfold Wr; rw [he], h3, h1⟩
  | skip W1 h1 h2 h3 h4 h5 he => left; exact ⟨by unfold Wr; rw [he], h3, h1⟩
  | call f args W1 W2 m h1 h2 h3 h4 h5 h6 he => left; exact ⟨by unfold Wr; rw [he], h3, h1⟩
  | round l args W1 W2 m h1 h2 h3 h4 h5 h6 he => left; exact ⟨by unfold Wr; rw [he], h3, h1⟩

variable (hst : ∀ i o, ops[i]? = some o → StepK P R ops fl i o (st i) (st (i + 1)) (val i))
include hst

theorem st_at (a0 : CAct) (h0 : (st 0).a = a0) (d : Nat) : ∀ i, i ≤ ops.size → (st i).a.at d = TT (dstOf ops) val a0.at (fun _ => true) i d
  | 0, _ => by rw [h0]; rfl
  | i + 1, hi => by
    have ho : ops[i]? = some ops[i] := by simp [show i < ops.size by omega]
    have hp := (hst i _ ho).put
    rw [hp, TT]
    have ih := st_at a0 h0 d i (by omega)
    have hd : dstOf ops i = ops[i].dst := by simp [dstOf, ho]
    rw [hd]
    cases hdd : ops[i].dst with
    | none =>
      rw [if_neg (by rintro ⟨_, h⟩; cases h), ← ih]
      rfl
    | some t =>
      rw [CAct.at_put]
      by_cases e : d = t
      · subst e; rw [if_pos rfl, if_pos ⟨rfl, rfl⟩]
      · rw [if_neg e, if_neg (by rintro ⟨_, h⟩; cases h; exact e rfl), ih]

theorem st_nt (a0 : CAct) (h0 : (st 0).a = a0) : ∀ i, i ≤ ops.size → (st i).a.nt = a0.nt ∧ (st i).a.defers = a0.defers
  | 0, _ => by rw [h0]; exact ⟨rfl, rfl⟩
  | i + 1, hi => by
    have ho : ops[i]? = some ops[i] := by simp [show i < ops.size by omega]
    rw [(hst i _ ho).put, CAct.put_nt, CAct.put_defers]
    exact st_nt a0 h0 i (by omega)

theorem st_gap {p : Nat} : ∀ (q : Nat), p ≤ q → q ≤ ops.size → ∃ A, (st q).ws = A ++ (st p).ws ∧ (∀ x, x ∈ A → p ≤ x.1 ∧ x.1 < q ∧ Wr st x.1) ∧ gw A (st q).W = (st p).W
  | 0, h, _ => by have : p = 0 := by omega
                  subst this; exact ⟨[], rfl, (fun x hx => by cases hx), rfl⟩
  | q + 1, h, hq => by
    by_cases e : p = q + 1
    · subst e; exact ⟨[], rfl, (fun x hx => by cases hx), rfl⟩
    · obtain ⟨A, h1, h2, h3⟩ := st_gap (p := p) q (by omega) (by omega)
      have ho : ops[q]? = some ops[q] := by simp [show q < ops.size by omega]
      rcases (hst q _ ho).wr with ⟨hw, _⟩ | ⟨_, hW, hws⟩
      · refine ⟨(q, (st q).W) :: A, by rw [hw, h1]; rfl, fun x hx => ?_, h3⟩
        rcases List.mem_cons.1 hx with rfl | hx
        · exact ⟨by omega, by simp, hw⟩
        · obtain ⟨a, b, c⟩ := h2 x hx; exact ⟨a, by omega, c⟩
      · exact ⟨A, by rw [hws, h1], fun x hx => let ⟨a, b, c⟩ := h2 x hx; ⟨a, by omega, c⟩, by rw [hW]; exact h3⟩

theorem st_next : ∀ (k i : Nat), i + k = ops.size → ∃ p, i ≤ p ∧ p ≤ ops.size ∧ (p = ops.size ∨ Wr st p) ∧ (∀ j, i ≤ j → j < p → ¬ Wr st j) ∧ (st p).W = (st i).W
  | 0, i, h => ⟨i, Nat.le_refl _, by omega, .inl (by omega), fun j h1 h2 => by omega, rfl⟩
  | k + 1, i, h => by
    have ho : ops[i]? = some ops[i] := by simp [show i < ops.size by omega]
    rcases (hst i _ ho).wr with ⟨hw, _⟩ | ⟨hn, hW, _⟩
    · exact ⟨i, Nat.le_refl _, by omega, .inr hw, fun j h1 h2 => by omega, rfl⟩
    · obtain ⟨p, h1, h2, h3, h4, h5⟩ := st_next k (i + 1) (by omega)
      refine ⟨p, by omega, h2, h3, fun j hj1 hj2 => ?_, by rw [h5, hW]⟩
      by_cases e : j = i
      · subst e; exact hn
      · exact h4 j (by omega) hj2
end
end Go.Ce
