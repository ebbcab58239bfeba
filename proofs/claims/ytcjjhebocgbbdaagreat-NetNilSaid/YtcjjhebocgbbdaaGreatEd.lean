/- Cells of structs and arrays, one by one. -/
import Derived.Test.YtcjjhebocgbbdaaGreatEc
set_option linter.unusedSectionVars false
set_option linter.unusedVariables false
set_option linter.unusedSimpArgs false
namespace Go.Ce

section
variable {P : Program}

/-- The types of the cells of a type. -/
def leafTs (P : Program) : Nat → TypeId → List TypeId
  | 0, _ => []
  | n + 1, t => match P.underlying t with
    | some (.struct fs) => fs.toList.flatMap fun f => leafTs P n f.type
    | some (.array k e) => (List.range k).flatMap fun _ => leafTs P n e
    | _ => [t]

/-- A cell is of a type. -/
def Leaf (P : Program) (W : CW) (t : TypeId) (v : Value) : Prop := ∃ m, CT P m t W [v]

def Leaves (P : Program) (W : CW) : List TypeId → List Value → Prop
  | [], [] => True
  | t :: ts, v :: vs => Leaf P W t v ∧ Leaves P W ts vs
  | _, _ => False

theorem Leaves.append {W : CW} : ∀ {ts us : List TypeId} {vs ws : List Value}, Leaves P W ts vs → Leaves P W us ws → Leaves P W (ts ++ us) (vs ++ ws)
  | [], _, [], _, _, h => h
  | t :: ts, _, v :: vs, _, h, k => ⟨h.1, Leaves.append h.2 k⟩
  | [], _, _ :: _, _, h, _ => h.elim
  | _ :: _, _, [], _, h, _ => h.elim

theorem leaf_fields {n : Nat} {W : CW} {okT' : TypeId → Bool} {vs : List Value} {total : Nat} (hvs : vs.length = total) : ∀ (fs : List Field) (off : Nat), layOk P okT' fs off total = true →
    (∀ f, f ∈ fs → okT' f.type = true → Leaves P W (leafTs P n f.type) ((vs.drop f.offset).take (P.cellsOf f.type))) → Leaves P W (fs.flatMap fun f => leafTs P n f.type) (vs.drop off)
  | [], off, h, _ => by
    have := Nat.eq_of_beq_eq_true h
    rw [List.drop_eq_nil_of_le (by omega)]
    exact trivial
  | g :: fs, off, h, hp => by
    simp only [layOk, Bool.and_eq_true] at h
    have h1 := Nat.eq_of_beq_eq_true h.1.1
    have e : vs.drop off = (vs.drop g.offset).take (P.cellsOf g.type) ++ vs.drop (off + P.cellsOf g.type) := by
      rw [h1, ← List.drop_drop, List.take_append_drop]
    rw [e, List.flatMap_cons]
    exact (hp g (by simp) h.1.2).append (leaf_fields hvs fs _ h.2 fun f hf => hp f (by simp [hf]))

theorem leaf_arr {W : CW} {ts : List TypeId} {s : Nat} {vs : List Value} : ∀ (m i : Nat), vs.length = (i + m) * s → (∀ j, i ≤ j → j < i + m → Leaves P W ts ((vs.drop (j * s)).take s)) → ∀ k, Leaves P W ((List.range' k m).flatMap fun _ => ts) (vs.drop (i * s))
  | 0, i, h, _, k => by
    rw [List.drop_eq_nil_of_le (by rw [h]; exact Nat.le_refl _)]
    exact trivial
  | m + 1, i, h, hp, k => by
    rw [List.range'_succ, List.flatMap_cons]
    have e : vs.drop (i * s) = (vs.drop (i * s)).take s ++ vs.drop ((i + 1) * s) := by
      rw [Nat.add_mul, Nat.one_mul, ← List.drop_drop, List.take_append_drop]
    rw [e]
    exact (hp i (Nat.le_refl _) (by omega)).append (leaf_arr m (i + 1) (by rw [h]; congr 1; omega) (fun j h1 h2 => hp j (by omega) (by omega)) (k + 1))

theorem leavesOf {W : CW} : ∀ {n : Nat} {t : TypeId} {vs : List Value}, okT P n t = true → CT P n t W vs → Leaves P W (leafTs P n t) vs := by
  intro n
  induction n with
  | zero => intro t vs h; cases h
  | succ n ih =>
    intro t vs h hc
    have hc0 := hc
    simp only [okT] at h
    split at h
    · rename_i ht
      simp only [CT, ht] at hc
      obtain ⟨b, rfl⟩ := hc
      simp only [leafTs, ht]
      exact ⟨⟨_, hc0⟩, trivial⟩
    · rename_i k ht
      simp only [CT, ht] at hc
      obtain ⟨b, rfl, _⟩ := hc
      simp only [leafTs, ht]
      exact ⟨⟨_, hc0⟩, trivial⟩
    · rename_i ht
      simp only [CT, ht] at hc
      obtain ⟨b, rfl, _⟩ := hc
      simp only [leafTs, ht]
      exact ⟨⟨_, hc0⟩, trivial⟩
    · rename_i e ht
      simp only [CT, ht] at hc
      simp only [leafTs, ht]
      rcases hc with rfl | rfl | ⟨_, _, _, _, rfl, _⟩ <;> exact ⟨⟨_, hc0⟩, trivial⟩
    · rename_i fs ht
      simp only [CT, ht] at hc
      simp only [leafTs, ht]
      have := leaf_fields (P := P) (W := W) (n := n) hc.1 fs.toList 0 h fun f hf hof => ih hof (hc.2 f hf)
      simpa using this
    · rename_i k e ht
      simp only [Bool.and_eq_true] at h
      have htot := Nat.eq_of_beq_eq_true h.2
      simp only [CT, ht] at hc
      simp only [leafTs, ht]
      have := leaf_arr (P := P) (W := W) (ts := leafTs P n e) (s := P.cellsOf e) (vs := vs) k 0 (by rw [hc.1, htot, Nat.zero_add]) (fun j _ hj => ih h.1 (hc.2 j (by omega))) 0
      rw [List.range_eq_range']
      simpa using this
    · cases h

theorem Leaf.int {W : CW} {t : TypeId} {k : IntKind} {v : Value} (ht : P.underlying t = some (.int k)) (h : Leaf P W t v) : ∃ x, v = .int k x ∧ (Lit.int k x).wf = true := by
  obtain ⟨m, h⟩ := h
  cases m with
  | zero => exact h.elim
  | succ m =>
    simp only [CT, ht] at h
    obtain ⟨x, hx, hw⟩ := h
    cases hx
    exact ⟨x, rfl, hw⟩
theorem Leaf.bool {W : CW} {t : TypeId} {v : Value} (ht : P.underlying t = some .bool) (h : Leaf P W t v) : ∃ x, v = .bool x := by
  obtain ⟨m, h⟩ := h
  cases m with
  | zero => exact h.elim
  | succ m =>
    simp only [CT, ht] at h
    obtain ⟨x, hx⟩ := h
    cases hx
    exact ⟨x, rfl⟩
theorem Leaf.string {W : CW} {t : TypeId} {v : Value} (ht : P.underlying t = some .string) (h : Leaf P W t v) : ∃ x : ByteArray, v = .string x ∧ x.size ≤ maxLen := by
  obtain ⟨m, h⟩ := h
  cases m with
  | zero => exact h.elim
  | succ m =>
    simp only [CT, ht] at h
    obtain ⟨x, hx, hw⟩ := h
    cases hx
    exact ⟨x, rfl, hw⟩
/-- A slice that came in: nil, one without places, or one whose elements are cells of a block. -/
theorem Leaf.slice {W : CW} {t e : TypeId} {v : Value} (ht : P.underlying t = some (.slice e)) (h : Leaf P W t v) : v = .slice none 0 0 ∨ v = .slice (some ⟨0, 0, some 0⟩) 0 0 ∨ ∃ k len cap f m, v = .slice (some ⟨k, 0, none⟩) len cap ∧ 0 < cap ∧ len ≤ cap ∧ cap ≤ maxLen ∧
    W.obj k = some (.fixed f (len * P.cellsOf e) e) ∧ ∀ i, i < len → CT P m e W (readFix f (P.cellsOf e) (i * P.cellsOf e)) := by
  obtain ⟨m, h⟩ := h
  cases m with
  | zero => exact h.elim
  | succ m =>
    simp only [CT, ht] at h
    rcases h with h | h | ⟨k, len, cap, f, h1, h2, h3, h4, h5, h6⟩
    · cases h; exact .inl rfl
    · cases h; exact .inr (.inl rfl)
    · cases h1; exact .inr (.inr ⟨k, len, cap, f, m, rfl, h2, h3, h4, h5, h6⟩)

theorem CTs.cons {W : CW} {t : TypeId} {ts : List TypeId} {vs : List Value} (h : CTs P (t :: ts) W vs) : ∃ cs vs', vs = argV P t cs :: vs' ∧ CT P 20 t W cs ∧ CTs P ts W vs' := by
  cases vs with
  | nil => exact h.elim
  | cons v vs =>
    obtain ⟨⟨cs, rfl, hc⟩, h2⟩ := h
    exact ⟨cs, vs, rfl, hc, h2⟩
theorem CTs.nil {W : CW} {vs : List Value} (h : CTs P [] W vs) : vs = [] := by
  cases vs with
  | nil => rfl
  | cons => exact h.elim
theorem Leaves.cons {W : CW} {t : TypeId} {ts : List TypeId} {vs : List Value} (h : Leaves P W (t :: ts) vs) : ∃ v vs', vs = v :: vs' ∧ Leaf P W t v ∧ Leaves P W ts vs' := by
  cases vs with
  | nil => exact h.elim
  | cons v vs => exact ⟨v, vs, rfl, h.1, h.2⟩
theorem Leaves.nil {W : CW} {vs : List Value} (h : Leaves P W [] vs) : vs = [] := by
  cases vs with
  | nil => rfl
  | cons => exact h.elim
end
end Go.Ce
