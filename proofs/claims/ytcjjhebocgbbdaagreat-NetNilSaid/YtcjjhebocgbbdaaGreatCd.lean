/- The canonical machine for closed runs: how its memory stands to the model's; loads, stores, new blocks. -/
import Derived.Test.YtcjjhebocgbbdaaGreatCc
set_option linter.unusedSectionVars false
set_option linter.unusedVariables false
set_option linter.unusedSimpArgs false
namespace Go.Ce
open Go.RowKit (Below)

inductive ERel (ρ : Ren) : MapEntry → MapEntry → Prop
  | mk {k v k' v' : Value} (b : Nat) : VRel ρ k k' → VRel ρ v v' → ERel ρ ⟨k, v, b⟩ ⟨k', v', b⟩

def ELRel (ρ : Ren) : List MapEntry → List MapEntry → Prop
  | [], [] => True
  | e :: es, e' :: es' => ERel ρ e e' ∧ ELRel ρ es es'
  | _, _ => False

theorem ERel.mono {ρ ρ' : Ren} {e e' : MapEntry} (h : ERel ρ e e') (x : Ext ρ ρ') : ERel ρ' e e' := by
  cases h with | mk b hk hv => exact .mk b (hk.mono x) (hv.mono x)
theorem ELRel.mono {ρ ρ' : Ren} (x : Ext ρ ρ') : ∀ {es es' : List MapEntry}, ELRel ρ es es' → ELRel ρ' es es'
  | [], [], _ => trivial
  | _ :: _, _ :: _, h => ⟨h.1.mono x, ELRel.mono x h.2⟩
  | [], _ :: _, h => h.elim
  | _ :: _, [], h => h.elim

/-- No cell of a block is frozen. -/
def NF (fr : Nat × Nat) (n : Nat) : Prop := ∀ k, k < n → (decide (fr.1 ≤ k) && decide (k < fr.2)) = false
theorem NF.zero (n : Nat) : NF (0, 0) n := fun k _ => by simp

inductive ORel (P : Program) (ρ : Ren) (x : Info) : CObj → Obj → Prop
  | cells {c : Tr Value} {z : Array Value} {e : TypeId} {c' : Array Value} {fr : Nat × Nat} : (P.info? e).map (·.size) = some x.sz → c'.size = x.n' → x.o + x.n ≤ x.n' →
      (∀ k, k < x.n → VRel ρ (cellAt c z k) (c'.getD (k + x.o) undef)) → (NF fr c'.size ∧ (z.size ≠ 0 → x.o = 0 ∧ x.n = x.n')) → ORel P ρ x (.cells c x.n z e) (.cells c' e fr)
  | fixed {f : Nat → Value} {e e' : TypeId} {c' : Array Value} {fr : Nat × Nat} : (P.info? e).map (·.size) = some x.sz → c'.size = x.n' → x.o + x.n ≤ x.n' →
      (∀ k, k < x.n → VRel ρ (f k) (c'.getD (k + x.o) undef)) → ORel P ρ x (.fixed f x.n e) (.cells c' e' fr)
  | map {es : List MapEntry} {es' : Array MapEntry} {clk : Nat} : x.o = 0 → ELRel ρ es es'.toList → ORel P ρ x (.map es clk) (.map es' clk)
  | iterNone {s l : Nat} {seen : List Nat} {seen' : Array Nat} : x.o = 0 → ORel P ρ x (.iter none s seen l) (.mapIter none s seen' l)
  | iter {m m' s l : Nat} {seen : List Nat} : x.o = 0 → BRel ρ m m' → ORel P ρ x (.iter (some m) s seen l) (.mapIter (some m') s seen.toArray l)
  | loop {st : LoopState} {pd : Option Code} {f f' : FuncId} {t : Tr Value} {t' : Array Value} {ps : Array Tmp} {as bd : Code} {d d' : Nat} :
      (∀ i, VRel ρ ((t.get i).getD undef) (t'.getD i undef)) → BRel ρ d d' → (psOk t'.size ps = true ∧ codeOk P t'.size true as = true ∧ codeOk P t'.size true bd = true) →
      ORel P ρ x (.loop st pd f t t'.size ps as bd d) (.loop { state := st, pending := pd, fn := f', tmps := t', params := ps, assign := as, body := bd, defers := d' })
  | deferred : ORel P ρ x .deferred (.deferred (some []))

theorem ORel.mono {P : Program} {ρ ρ' : Ren} {x : Info} {o : CObj} {o' : Obj} (h : ORel P ρ x o o') (e : Ext ρ ρ') : ORel P ρ' x o o' := by
  cases h with
  | cells a b c d q => exact .cells a b c (fun k hk => (d k hk).mono e) q
  | fixed a b c d => exact .fixed a b c fun k hk => (d k hk).mono e
  | map a b => exact .map a (b.mono e)
  | iterNone a => exact .iterNone a
  | iter a b => exact .iter a (b.mono e)
  | loop a b c => exact .loop (fun i => (a i).mono e) (b.mono e) c
  | deferred => exact .deferred

structure WRel (P : Program) (w0 : World) (ρ : Ren) (W : CW) (w : World) : Prop where
  dom : ∀ i x, ρ i = some x → i < W.sz
  top : ∀ i o, W.h.get i = some o → i < W.sz
  live : ∀ i o x, W.h.get i = some o → o ≠ .dead → ρ i = some x → ∃ o', w.heap[x.b]? = some o' ∧ ORel P ρ x o o' ∧ (o.mut = true → w0.heap.size ≤ x.b) ∧ (o.mut = false → x.b < w0.heap.size)
  inj : ∀ i j o u x y, W.h.get i = some o → o.mut = true → W.h.get j = some u → u.mut = true → ρ i = some x → ρ j = some y → x.b = y.b → i = j
  below : Below w0.heap.size w0 w

section
variable {P : Program} {w0 : World} {ρ : Ren} {W : CW} {w : World}

theorem WRel.drew (h : WRel P w0 ρ W w) (n : Nat) : WRel P w0 ρ W { w with drawn := n } :=
  ⟨h.dom, h.top, h.live, h.inj, ⟨h.below.os, h.below.tape, h.below.output, h.below.size, h.below.block⟩⟩

theorem WRel.obj (h : WRel P w0 ρ W w) {i : Nat} {o : CObj} (ho : W.obj i = some o) (hd : o ≠ .dead) {a' : Nat} {x : Info} (hx : ρ i = some x) (hb : a' = x.b) :
    ∃ o', w.heap[a']? = some o' ∧ ORel P ρ x o o' := by
  obtain ⟨o', ho', hr, _⟩ := h.live i o x ho hd hx
  subst hb
  exact ⟨o', ho', hr⟩

/-- How the names grow from one memory to the next. -/
def Grow (W : CW) (ρ : Ren) (W1 : CW) (ρ' : Ren) : Prop := Ext ρ ρ' ∧ (∀ i, i < W.sz → ρ' i = ρ i) ∧ W.sz ≤ W1.sz
theorem Grow.refl {W W1 : CW} (ρ : Ren) (h : W.sz ≤ W1.sz := by exact Nat.le_refl _) : Grow W ρ W1 ρ := ⟨Ext.refl ρ, fun _ _ => rfl, h⟩
theorem Grow.ext {W W1 : CW} {ρ ρ' : Ren} (h : Grow W ρ W1 ρ') : Ext ρ ρ' := h.1
theorem Grow.trans {W W1 W2 : CW} {ρ ρ' ρ'' : Ren} (h : Grow W ρ W1 ρ') (k : Grow W1 ρ' W2 ρ'') : Grow W ρ W2 ρ'' :=
  ⟨h.1.trans k.1, fun i hi => by rw [k.2.1 i (Nat.lt_of_lt_of_le hi h.2.2), h.2.1 i hi], Nat.le_trans h.2.2 k.2.2⟩

/-- A new block, on both sides. -/
theorem CObj.mut_ne {o : CObj} (h : o.mut = true) : o ≠ .dead := by rintro rfl; cases h

theorem WRel.new (h : WRel P w0 ρ W w) {o : CObj} {o' : Obj} (x : Info) (hb : x.b = w.heap.size)
    (hr : ORel P (fun i => if i = W.sz then some x else ρ i) x o o') (hm : o.mut = true := by rfl) :
    Grow W ρ (W.new o) (fun i => if i = W.sz then some x else ρ i) ∧ WRel P w0 (fun i => if i = W.sz then some x else ρ i) (W.new o) { w with heap := w.heap.push o' } := by
  have hext : Ext ρ (fun i => if i = W.sz then some x else ρ i) := fun i y hy => by
    have := h.dom i y hy
    show (if i = W.sz then some x else ρ i) = some y
    rw [if_neg (by omega)]; exact hy
  have hw0 : w0.heap.size ≤ w.heap.size := h.below.size
  have hold : ∀ i u y, W.h.get i = some u → u ≠ .dead → ρ i = some y → y.b < w.heap.size := fun i u y hu hd hy => by
    obtain ⟨o', ho', _, _⟩ := h.live i u y hu hd hy
    exact (Array.getElem?_eq_some_iff.1 ho').1
  refine ⟨⟨hext, fun i hi => by show (if i = W.sz then some x else ρ i) = ρ i; rw [if_neg (by omega)], Nat.le_succ _⟩, ?_, ?_, ?_, ?_, ?_⟩
  · intro i y hy
    show i < W.sz + 1
    by_cases e : i = W.sz
    · omega
    · have : ρ i = some y := by simpa [e] using hy
      have := h.dom i y this; omega
  · intro i u hu
    show i < W.sz + 1
    simp only [CW.new, Tr.get_set] at hu
    split at hu
    · omega
    · have := h.top i u hu; omega
  · intro i u y hu hd hy
    simp only [CW.new, Tr.get_set] at hu
    split at hu
    · rename_i e
      cases hu
      have hy : some x = some y := by simpa [e] using hy
      cases hy
      refine ⟨o', ?_, hr, fun _ => by omega, fun hf => by rw [hm] at hf; cases hf⟩
      show (w.heap.push o')[x.b]? = _
      rw [hb]; simp
    · rename_i e
      have hy : ρ i = some y := by simpa [e] using hy
      obtain ⟨u', hu', hru, hfr⟩ := h.live i u y hu hd hy
      refine ⟨u', ?_, hru.mono hext, hfr⟩
      have hlt := (Array.getElem?_eq_some_iff.1 hu').1
      show (w.heap.push o')[y.b]? = _
      rw [Array.getElem?_push, if_neg (by omega)]; exact hu'
  · intro i j u v y z hu hud hv hvd hy hz hyz
    simp only [CW.new, Tr.get_set] at hu hv
    by_cases ei : i = W.sz
    · by_cases ej : j = W.sz
      · omega
      · simp only [if_neg ej] at hv hz
        simp only [if_pos ei, Option.some.injEq] at hy
        have hlt := hold j v z hv (CObj.mut_ne hvd) hz
        subst hy; omega
    · simp only [if_neg ei] at hu hy
      by_cases ej : j = W.sz
      · simp only [if_pos ej, Option.some.injEq] at hz
        have hlt := hold i u y hu (CObj.mut_ne hud) hy
        subst hz; omega
      · simp only [if_neg ej] at hv hz
        exact h.inj i j u v y z hu hud hv hvd hy hz hyz
  · exact ⟨h.below.os, h.below.tape, h.below.output, by show w0.heap.size ≤ (w.heap.push o').size; rw [Array.size_push]; omega, fun k hk => by
      show (w.heap.push o')[k]? = _
      rw [Array.getElem?_push, if_neg (by omega)]; exact h.below.block k hk⟩

/-- An object changed, on both sides. -/
theorem WRel.upd (h : WRel P w0 ρ W w) {i : Nat} {o u : CObj} {u' : Obj} {x : Info} (ho : W.obj i = some o) (hd : o.mut = true) (hx : ρ i = some x)
    (hr : ORel P ρ x u u') (hm : u.mut = true := by rfl) : WRel P w0 ρ (W.upd i u) { w with heap := w.heap.setIfInBounds x.b u' } := by
  obtain ⟨o', ho', _, hfr, _⟩ := h.live i o x ho (CObj.mut_ne hd) hx
  have hfr := hfr hd
  have hlt := (Array.getElem?_eq_some_iff.1 ho').1
  have hi := h.top i o ho
  refine ⟨h.dom, ?_, ?_, ?_, ?_⟩
  · intro j v hv
    simp only [CW.upd, Tr.get_set] at hv
    split at hv
    · show j < W.sz; omega
    · exact h.top j v hv
  · intro j v y hv hvd hy
    simp only [CW.upd, Tr.get_set] at hv
    split at hv
    · rename_i e
      cases hv; subst e
      rw [hx] at hy; cases hy
      refine ⟨u', ?_, hr, fun _ => hfr, fun hf => by rw [hm] at hf; cases hf⟩
      show (w.heap.setIfInBounds x.b u')[x.b]? = _
      simp [hlt]
    · rename_i e
      obtain ⟨v', hv', hrv, hfv⟩ := h.live j v y hv hvd hy
      refine ⟨v', ?_, hrv, hfv⟩
      have hne : x.b ≠ y.b := fun hb => by
        cases hvm : v.mut with
        | true => exact e (h.inj j i v o y x hv hvm ho hd hy hx hb.symm)
        | false => have := hfv.2 hvm; omega
      show (w.heap.setIfInBounds x.b u')[y.b]? = _
      rw [Array.getElem?_setIfInBounds_ne hne]; exact hv'
  · intro j k v v' y z hv hvd hv' hvd' hy hz hyz
    have get : ∀ j v, (W.upd i u).h.get j = some v → v.mut = true → ∃ v0, W.h.get j = some v0 ∧ v0.mut = true := fun j v hv hvd => by
      simp only [CW.upd, Tr.get_set] at hv
      split at hv
      · rename_i e; subst e; exact ⟨o, ho, hd⟩
      · exact ⟨v, hv, hvd⟩
    obtain ⟨a, ha, had⟩ := get j v hv hvd
    obtain ⟨b, hb, hbd⟩ := get k v' hv' hvd'
    exact h.inj j k a b y z ha had hb hbd hy hz hyz
  · exact ⟨h.below.os, h.below.tape, h.below.output, by show w0.heap.size ≤ (w.heap.setIfInBounds x.b u').size; rw [Array.size_setIfInBounds]; exact h.below.size, fun k hk => by
      show (w.heap.setIfInBounds x.b u')[k]? = _
      rw [Array.getElem?_setIfInBounds_ne (by omega)]; exact h.below.block k hk⟩

end
end Go.Ce
