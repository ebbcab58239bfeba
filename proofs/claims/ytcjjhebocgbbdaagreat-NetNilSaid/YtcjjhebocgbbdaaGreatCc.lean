/- The canonical machine for closed runs: how its values and memory stand to the model's. -/
import Derived.Test.YtcjjhebocgbbdaaGreatCb
import Derived.Below
set_option linter.unusedSectionVars false
set_option linter.unusedVariables false
set_option linter.unusedSimpArgs false
namespace Go.Ce
open Go.RowKit (Below)

theorem Tr.get_nil {α : Type} (i : Nat) : (Tr.nil : Tr α).get i = none := rfl

theorem Tr.get_node {α : Type} (l : Tr α) (v : Option α) (r : Tr α) (i : Nat) :
    (Tr.node l v r).get i = if i = 0 then v else if i % 2 = 1 then l.get (i / 2) else r.get (i / 2 - 1) := by
  simp only [Tr.get, cond_eq_ite, Nat.beq_eq]

theorem Tr.get_setF {α : Type} (f : Nat) : ∀ (t : Tr α) (i : Nat) (x : α) (j : Nat), i < f → (Tr.setF f t i x).get j = if j = i then some x else t.get j := by
  induction f with
  | zero => intro t i x j h; omega
  | succ f ih =>
    intro t i x j h
    have h1 : i ≠ 0 → i / 2 < f := by omega
    have h2 : i ≠ 0 → i / 2 - 1 < f := by omega
    cases t with
    | nil =>
      simp only [Tr.setF, cond_eq_ite, Nat.beq_eq]
      by_cases hi : i = 0
      · subst hi
        simp only [if_true, Tr.get_node, Tr.get_nil]
        by_cases hj : j = 0
        · simp [hj]
        · simp [hj]
      · rw [if_neg hi]
        by_cases hm : i % 2 = 1
        · rw [if_pos hm, Tr.get_node, ih _ _ _ _ (h1 hi)]
          by_cases hj : j = 0
          · simp [hj, Tr.get_nil]; omega
          · rw [if_neg hj]
            by_cases hjm : j % 2 = 1
            · rw [if_pos hjm]
              by_cases e : j = i
              · simp [e]
              · rw [if_neg (by omega), if_neg e]; rfl
            · rw [if_neg hjm, if_neg (by omega)]; rfl
        · rw [if_neg hm, Tr.get_node, ih _ _ _ _ (h2 hi)]
          by_cases hj : j = 0
          · simp [hj, Tr.get_nil]; omega
          · rw [if_neg hj]
            by_cases hjm : j % 2 = 1
            · rw [if_pos hjm, if_neg (by omega)]; rfl
            · rw [if_neg hjm]
              by_cases e : j = i
              · simp [e]
              · rw [if_neg (by omega), if_neg e]; rfl
    | node l v r =>
      simp only [Tr.setF, cond_eq_ite, Nat.beq_eq]
      by_cases hi : i = 0
      · subst hi
        simp only [if_true, Tr.get_node]
        by_cases hj : j = 0
        · simp [hj]
        · simp [hj]
      · rw [if_neg hi]
        by_cases hm : i % 2 = 1
        · rw [if_pos hm, Tr.get_node, ih _ _ _ _ (h1 hi), Tr.get_node]
          by_cases hj : j = 0
          · simp [hj]; omega
          · rw [if_neg hj, if_neg hj]
            by_cases hjm : j % 2 = 1
            · rw [if_pos hjm, if_pos hjm]
              by_cases e : j = i
              · simp [e]
              · rw [if_neg (by omega), if_neg e]
            · rw [if_neg hjm, if_neg hjm, if_neg (by omega)]
        · rw [if_neg hm, Tr.get_node, ih _ _ _ _ (h2 hi), Tr.get_node]
          by_cases hj : j = 0
          · simp [hj]; omega
          · rw [if_neg hj, if_neg hj]
            by_cases hjm : j % 2 = 1
            · rw [if_pos hjm, if_pos hjm, if_neg (by omega)]
            · rw [if_neg hjm, if_neg hjm]
              by_cases e : j = i
              · simp [e]
              · rw [if_neg (by omega), if_neg e]

theorem Tr.get_set {α : Type} (t : Tr α) (i : Nat) (x : α) (j : Nat) : (t.set i x).get j = if j = i then some x else t.get j :=
  Tr.get_setF _ _ _ _ _ (by omega)

theorem Tr.get_putFrom {α : Type} (xs : List α) : ∀ (t : Tr α) (k j : Nat), (t.putFrom k xs).get j = if k ≤ j ∧ j < k + xs.length then xs[j - k]? else t.get j := by
  induction xs with
  | nil => intro t k j; simp only [Tr.putFrom, List.length_nil, Nat.add_zero]; rw [if_neg (by omega)]
  | cons x xs ih =>
    intro t k j
    simp only [Tr.putFrom, ih, Tr.get_set, List.length_cons]
    by_cases h : k + 1 ≤ j ∧ j < k + 1 + xs.length
    · rw [if_pos h, if_pos (by omega)]
      obtain ⟨m, rfl⟩ : ∃ m, j = k + (m + 1) := ⟨j - k - 1, by omega⟩
      have e1 : k + (m + 1) - (k + 1) = m := by omega
      have e2 : k + (m + 1) - k = m + 1 := by omega
      rw [e1, e2]; rfl
    · rw [if_neg h]
      by_cases e : j = k
      · subst e; simp
      · rw [if_neg e, if_neg (by omega)]

/-! ### Renaming -/

/-- Where a canonical block lies: the block, the offset of its cells there, the size of an element, how many cells it has here and there. -/
structure Info where
  b : Nat
  o : Nat
  sz : Nat
  n : Nat
  n' : Nat

abbrev Ren := Nat → Option Info

def Ext (ρ ρ' : Ren) : Prop := ∀ i x, ρ i = some x → ρ' i = some x
theorem Ext.refl (ρ : Ren) : Ext ρ ρ := fun _ _ h => h
theorem Ext.trans {ρ ρ' ρ'' : Ren} (h : Ext ρ ρ') (k : Ext ρ' ρ'') : Ext ρ ρ'' := fun i x e => k i x (h i x e)

def ARel (ρ : Ren) (a a' : Addr) : Prop := a.spot = none ∧ ∃ x, ρ a.block = some x ∧ a' = ⟨x.b, a.off + x.o, none⟩
def BRel (ρ : Ren) (r r' : Nat) : Prop := ∃ x, ρ r = some x ∧ r' = x.b
def CapRel (ρ : Ren) (a : Addr) (c c' : Nat) : Prop := c' = c ∨ ∃ x, ρ a.block = some x ∧ 0 < x.sz ∧ a.off + c * x.sz = x.n ∧ a.off + x.o + c' * x.sz = x.n' ∧ c ≤ c'
inductive FnRel (ρ : Ren) : Fn → Fn → Prop
  | func (f : FuncId) : FnRel ρ (.func f) (.func f)
  | yield {l l' : Nat} : BRel ρ l l' → FnRel ρ (.yield l) (.yield l')
  | method (s : String) : FnRel ρ (.method s) (.method s)
  | methodOf (t : TypeId) (s : String) : FnRel ρ (.methodOf t s) (.methodOf t s)
  | via (t : TypeId) (p : Array FieldStep) (f : FuncId) (b : Bool) : FnRel ρ (.via t p f b) (.via t p f b)

inductive VRel (ρ : Ren) : Value → Value → Prop
  | bool (b : Bool) : VRel ρ (.bool b) (.bool b)
  | int (k : IntKind) (n : Int) : VRel ρ (.int k n) (.int k n)
  | float (k : FloatKind) (n : Nat) : VRel ρ (.float k n) (.float k n)
  | complex (k : FloatKind) (n m : Nat) : VRel ρ (.complex k n m) (.complex k n m)
  | string (s : ByteArray) : VRel ρ (.string s) (.string s)
  | pnil : VRel ρ (.pointer none) (.pointer none)
  | ptr {a a' : Addr} : ARel ρ a a' → VRel ρ (.pointer (some a)) (.pointer (some a'))
  | snil (n c : Nat) : VRel ρ (.slice none n c) (.slice none n c)
  | slice {a a' : Addr} (n : Nat) {c c' : Nat} : ARel ρ a a' → CapRel ρ a c c' → VRel ρ (.slice (some a) n c) (.slice (some a') n c')
  | slice00 {a a' : Addr} : a.spot = some 0 → VRel ρ (.slice (some a) 0 0) (.slice (some a') 0 0)
  | slice0 {a a' : Addr} {c' : Nat} {x : Info} : a.spot = none → ρ a.block = some x → a'.block = x.b → a'.spot = none → (c' = 0 ∨ (0 < x.sz ∧ a'.off + c' * x.sz = x.n')) → VRel ρ (.slice (some a) 0 0) (.slice (some a') 0 c')
  | mnil : VRel ρ (.map none) (.map none)
  | map {r r' : Nat} : BRel ρ r r' → VRel ρ (.map (some r)) (.map (some r'))
  | cnil : VRel ρ (.chan none) (.chan none)
  | func {f f' : Fn} {x x' y y' : Array Value} : FnRel ρ f f' → x.size = x'.size → (∀ i, i < x.size → VRel ρ (x.getD i undef) (x'.getD i undef)) →
      y.size = y'.size → (∀ i, i < y.size → VRel ρ (y.getD i undef) (y'.getD i undef)) → VRel ρ (.func f x y) (.func f' x' y')
  | nilFunc : VRel ρ .nilFunc .nilFunc
  | iface (t : TypeId) {v v' : Value} : VRel ρ v v' → VRel ρ (.iface t v) (.iface t v')
  | nilIface : VRel ρ .nilIface .nilIface
  | agg {x x' : Array Value} : x.size = x'.size → (∀ i, i < x.size → VRel ρ (x.getD i undef) (x'.getD i undef)) → VRel ρ (.agg x) (.agg x')
  | tuple {x x' : Array Value} : x.size = x'.size → (∀ i, i < x.size → VRel ρ (x.getD i undef) (x'.getD i undef)) → VRel ρ (.tuple x) (.tuple x')

theorem ARel.mono {ρ ρ' : Ren} {a a' : Addr} (h : ARel ρ a a') (e : Ext ρ ρ') : ARel ρ' a a' :=
  ⟨h.1, let ⟨x, hx, h'⟩ := h.2; ⟨x, e _ _ hx, h'⟩⟩
theorem BRel.mono {ρ ρ' : Ren} {a a' : Nat} (h : BRel ρ a a') (e : Ext ρ ρ') : BRel ρ' a a' := let ⟨x, hx, h'⟩ := h; ⟨x, e _ _ hx, h'⟩
theorem CapRel.mono {ρ ρ' : Ren} {a : Addr} {c c' : Nat} (h : CapRel ρ a c c') (e : Ext ρ ρ') : CapRel ρ' a c c' :=
  h.imp id fun ⟨x, hx, h'⟩ => ⟨x, e _ _ hx, h'⟩
theorem FnRel.mono {ρ ρ' : Ren} {f f' : Fn} (h : FnRel ρ f f') (e : Ext ρ ρ') : FnRel ρ' f f' := by
  cases h with
  | yield h => exact .yield (h.mono e)
  | func f => exact .func f
  | method s => exact .method s
  | methodOf t s => exact .methodOf t s
  | via t p f b => exact .via t p f b

theorem VRel.mono {ρ ρ' : Ren} {v v' : Value} (h : VRel ρ v v') (e : Ext ρ ρ') : VRel ρ' v v' := by
  induction h with
  | bool b => exact .bool b
  | int k n => exact .int k n
  | float k n => exact .float k n
  | complex k n m => exact .complex k n m
  | string s => exact .string s
  | pnil => exact .pnil
  | ptr h => exact .ptr (h.mono e)
  | snil n c => exact .snil n c
  | slice n h h' => exact .slice n (h.mono e) (h'.mono e)
  | slice00 a => exact .slice00 a
  | slice0 q a b c d => exact .slice0 q (e _ _ a) b c d
  | mnil => exact .mnil
  | map h => exact .map (h.mono e)
  | cnil => exact .cnil
  | func hf hx _ hy _ ihx ihy => exact .func (hf.mono e) hx ihx hy ihy
  | nilFunc => exact .nilFunc
  | iface t _ ih => exact .iface t ih
  | nilIface => exact .nilIface
  | agg hx _ ih => exact .agg hx ih
  | tuple hx _ ih => exact .tuple hx ih

theorem VRel.undef (ρ : Ren) : VRel ρ undef undef := .tuple rfl fun i h => by simp at h

theorem VRel.of_plain (ρ : Ren) : ∀ (n : Nat) (v : Value), plainV n v = true → VRel ρ v v := by
  intro n
  induction n with
  | zero => intro v h; simp [plainV] at h
  | succ n ih =>
    intro v h
    have all : ∀ x : Array Value, x.toList.all (plainV n) = true → ∀ i, i < x.size → VRel ρ (x.getD i Go.undef) (x.getD i Go.undef) := by
      intro x hx i hi
      rw [List.all_eq_true] at hx
      have e : x.getD i Go.undef = x[i] := by simp [Array.getD, hi]
      rw [e]
      exact ih _ (hx _ (by simp))
    cases v with
    | bool b => exact .bool b
    | int k m => exact .int k m
    | float k m => exact .float k m
    | complex k m l => exact .complex k m l
    | string s => exact .string s
    | pointer a => cases a with
      | none => exact .pnil
      | some a => simp [plainV] at h
    | slice a l c => cases a with
      | none => exact .snil l c
      | some a => simp [plainV] at h
    | map r => cases r with
      | none => exact .mnil
      | some a => simp [plainV] at h
    | chan r => cases r with
      | none => exact .cnil
      | some a => simp [plainV] at h
    | func f x y => simp [plainV] at h
    | nilFunc => exact .nilFunc
    | iface t v => exact .iface t (ih v (by simpa only [plainV] using h))
    | nilIface => exact .nilIface
    | agg x => exact .agg rfl (all x (by simpa only [plainV] using h))
    | tuple x => exact .tuple rfl (all x (by simpa only [plainV] using h))

theorem VRel.one {ρ : Ren} {v v' : Value} (h : VRel ρ v v') : oneCell v' = oneCell v := by cases h <;> rfl

/-- Lists of values, one by one. -/
def LRel (ρ : Ren) (xs ys : List Value) : Prop := xs.length = ys.length ∧ ∀ i, i < xs.length → VRel ρ (xs.getD i undef) (ys.getD i undef)

theorem LRel.nil (ρ : Ren) : LRel ρ [] [] := ⟨rfl, fun i h => by simp at h⟩
theorem LRel.cons {ρ : Ren} {x y : Value} {xs ys : List Value} (h : VRel ρ x y) (k : LRel ρ xs ys) : LRel ρ (x :: xs) (y :: ys) :=
  ⟨by simp [k.1], fun i hi => by
    cases i with
    | zero => exact h
    | succ i => exact k.2 i (by simpa using hi)⟩
theorem LRel.head {ρ : Ren} {x y : Value} {xs ys : List Value} (h : LRel ρ (x :: xs) (y :: ys)) : VRel ρ x y := h.2 0 (by simp)
theorem LRel.tail {ρ : Ren} {x y : Value} {xs ys : List Value} (h : LRel ρ (x :: xs) (y :: ys)) : LRel ρ xs ys :=
  ⟨by simpa using h.1, fun i hi => h.2 (i + 1) (by simpa using hi)⟩
theorem LRel.mono {ρ ρ' : Ren} {xs ys : List Value} (h : LRel ρ xs ys) (e : Ext ρ ρ') : LRel ρ' xs ys := ⟨h.1, fun i hi => (h.2 i hi).mono e⟩
theorem LRel.append {ρ : Ren} {xs ys xs' ys' : List Value} (h : LRel ρ xs ys) (k : LRel ρ xs' ys') : LRel ρ (xs ++ xs') (ys ++ ys') := by
  induction xs generalizing ys with
  | nil => cases ys with
    | nil => exact k
    | cons y ys => simpa using h.1
  | cons x xs ih => cases ys with
    | nil => simpa using h.1
    | cons y ys => exact .cons h.head (ih h.tail)
theorem LRel.map {ρ : Ren} {α : Type} (xs : List α) (f g : α → Value) (h : ∀ x, x ∈ xs → VRel ρ (f x) (g x)) : LRel ρ (xs.map f) (xs.map g) := by
  induction xs with
  | nil => exact .nil ρ
  | cons x xs ih => exact .cons (h x (by simp)) (ih fun y hy => h y (by simp [hy]))
theorem LRel.get {ρ : Ren} {xs ys : List Value} (h : LRel ρ xs ys) {i : Nat} {x : Value} (hx : xs[i]? = some x) : ∃ y, ys[i]? = some y ∧ VRel ρ x y := by
  obtain ⟨hi, e⟩ := List.getElem?_eq_some_iff.1 hx
  have hi' : i < ys.length := h.1 ▸ hi
  refine ⟨ys[i], by simp [hi'], ?_⟩
  have := h.2 i hi
  simp only [List.getD_eq_getElem?_getD, hx, List.getElem?_eq_getElem hi', Option.getD_some] at this
  exact this
theorem LRel.arr {ρ : Ren} {x x' : Array Value} : LRel ρ x.toList x'.toList ↔ (x.size = x'.size ∧ ∀ i, i < x.size → VRel ρ (x.getD i undef) (x'.getD i undef)) := by
  unfold LRel
  simp only [Array.length_toList, Array.getD_eq_getD_getElem?, List.getD_eq_getElem?_getD, Array.getElem?_toList]
theorem VRel.agg' {ρ : Ren} {x x' : Array Value} (h : LRel ρ x.toList x'.toList) : VRel ρ (.agg x) (.agg x') := .agg (LRel.arr.1 h).1 (LRel.arr.1 h).2
theorem VRel.tuple' {ρ : Ren} {x x' : Array Value} (h : LRel ρ x.toList x'.toList) : VRel ρ (.tuple x) (.tuple x') := .tuple (LRel.arr.1 h).1 (LRel.arr.1 h).2
theorem VRel.agg_inv {ρ : Ren} {x : Array Value} {v : Value} (h : VRel ρ (.agg x) v) : ∃ x', v = .agg x' ∧ LRel ρ x.toList x'.toList := by
  cases h with | agg e k => exact ⟨_, rfl, LRel.arr.2 ⟨e, k⟩⟩
theorem VRel.tuple_inv {ρ : Ren} {x : Array Value} {v : Value} (h : VRel ρ (.tuple x) v) : ∃ x', v = .tuple x' ∧ LRel ρ x.toList x'.toList := by
  cases h with | tuple e k => exact ⟨_, rfl, LRel.arr.2 ⟨e, k⟩⟩

theorem VRel.cells {ρ : Ren} {v v' : Value} (h : VRel ρ v v') : LRel ρ v.cells.toList v'.cells.toList := by
  cases h <;> first
    | exact .cons (by first | (constructor <;> assumption) | (apply VRel.slice0 <;> assumption) | (apply VRel.slice00 <;> assumption)) (.nil ρ)
    | (rename_i e k; exact LRel.arr.2 ⟨e, k⟩)

end Go.Ce
