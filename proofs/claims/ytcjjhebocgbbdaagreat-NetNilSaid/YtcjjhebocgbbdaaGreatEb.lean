/- What comes in: the arguments of a call, laid out for the canonical machine. -/
import Derived.Test.YtcjjhebocgbbdaaGreatEa
import Derived.Carry
import Derived.OpenShut
import Derived.ChangeSame
set_option linter.unusedSectionVars false
set_option linter.unusedVariables false
set_option linter.unusedSimpArgs false
namespace Go.Ce
open Go.RowKit (Below)

/-- A block that came in, under a name of its own. -/
theorem WRel.newFixed {P : Program} {ρ : Ren} {W : CW} {w : World} (h : WRel P w ρ W w) (x : Info) {f : Nat → Value} {e e' : TypeId} {c' : Array Value} {fr : Nat × Nat} (hb : w.heap[x.b]? = some (.cells c' e' fr)) (hn : c'.size = x.n')
    (hle : x.o + x.n ≤ x.n') (he : (P.info? e).map (·.size) = some x.sz) (hc : ∀ k, k < x.n → VRel ρ (f k) (c'.getD (k + x.o) undef)) :
    Grow W ρ (W.new (.fixed f x.n e)) (fun i => if i = W.sz then some x else ρ i) ∧ WRel P w (fun i => if i = W.sz then some x else ρ i) (W.new (.fixed f x.n e)) w := by
  have hext : Ext ρ (fun i => if i = W.sz then some x else ρ i) := fun i y hy => by
    have := h.dom i y hy
    show (if i = W.sz then some x else ρ i) = some y
    rw [if_neg (by omega)]; exact hy
  have hlt : x.b < w.heap.size := (Array.getElem?_eq_some_iff.1 hb).1
  refine ⟨⟨hext, fun i hi => by show (if i = W.sz then some x else ρ i) = ρ i; rw [if_neg (by omega)], Nat.le_succ _⟩, ?_, ?_, ?_, ?_, h.below⟩
  · intro i y hy
    show i < W.sz + 1
    by_cases e : i = W.sz
    · omega
    · have : ρ i = some y := by simpa [e] using hy
      have := h.dom i y this; omega
  · intro i u hu
    show i < W.sz + 1
    simp only [CW.new, Tr.get_set] at hu
    split at hu
    · omega
    · have := h.top i u hu; omega
  · intro i u y hu hd hy
    simp only [CW.new, Tr.get_set] at hu
    split at hu
    · rename_i e0
      cases hu
      have hy : some x = some y := by simpa [e0] using hy
      cases hy
      exact ⟨_, hb, .fixed he hn hle fun k hk => (hc k hk).mono hext, (fun hm => by cases hm), fun _ => hlt⟩
    · rename_i e0
      have hy : ρ i = some y := by simpa [e0] using hy
      obtain ⟨u', hu', hru, hfr⟩ := h.live i u y hu hd hy
      exact ⟨u', hu', hru.mono hext, hfr⟩
  · intro i j u v y z hu hud hv hvd hy hz hyz
    simp only [CW.new, Tr.get_set] at hu hv
    by_cases ei : i = W.sz
    · simp only [if_pos ei, Option.some.injEq] at hu
      subst hu; cases hud
    · simp only [if_neg ei] at hu hy
      by_cases ej : j = W.sz
      · simp only [if_pos ej, Option.some.injEq] at hv
        subst hv; cases hvd
      · simp only [if_neg ej] at hv hz
        exact h.inj i j u v y z hu hud hv hvd hy hz hyz

section
variable (P : Program)

/-- Types that are laid out: words, strings, slices, structs and arrays of such. -/
def layOk (okT : TypeId → Bool) : List Field → Nat → Nat → Bool
  | [], off, total => Nat.beq off total
  | f :: fs, off, total => Nat.beq f.offset off && okT f.type && layOk okT fs (off + P.cellsOf f.type) total
def okT : Nat → TypeId → Bool
  | 0, _ => false
  | n + 1, t => match P.underlying t with
    | some .bool => true
    | some (.int _) => true
    | some .string => true
    | some (.slice e) => (match siz P e with | some s => Nat.blt 0 s | none => false) && okT n e
    | some (.struct fs) => layOk P (okT n) fs.toList 0 (P.cellsOf t)
    | some (.array k e) => okT n e && Nat.beq (P.cellsOf t) (k * P.cellsOf e)
    | _ => false

/-- Cells that are of a type, for the canonical machine. -/
def CT : Nat → TypeId → CW → List Value → Prop
  | 0 => fun _ _ _ => False
  | n + 1 => fun t W vs => match P.underlying t with
    | some .bool => ∃ b, vs = [.bool b]
    | some (.int k) => ∃ x, vs = [.int k x] ∧ (Lit.int k x).wf = true
    | some .string => ∃ s : ByteArray, vs = [.string s] ∧ s.size ≤ maxLen
    | some (.slice e) => vs = [.slice none 0 0] ∨ vs = [.slice (some ⟨0, 0, some 0⟩) 0 0] ∨ ∃ k len cap f, vs = [.slice (some ⟨k, 0, none⟩) len cap] ∧ 0 < cap ∧ len ≤ cap ∧ cap ≤ maxLen ∧
        W.obj k = some (.fixed f (len * P.cellsOf e) e) ∧ ∀ i, i < len → CT n e W (readFix f (P.cellsOf e) (i * P.cellsOf e))
    | some (.struct fs) => vs.length = P.cellsOf t ∧ ∀ f, f ∈ fs.toList → CT n f.type W ((vs.drop f.offset).take (P.cellsOf f.type))
    | some (.array k e) => vs.length = P.cellsOf t ∧ ∀ i, i < k → CT n e W ((vs.drop (i * P.cellsOf e)).take (P.cellsOf e))
    | _ => False
end

def Keep (W W' : CW) : Prop := ∀ i o, W.obj i = some o → W'.obj i = some o
theorem Keep.refl (W : CW) : Keep W W := fun _ _ h => h
theorem Keep.trans {W W1 W2 : CW} (h : Keep W W1) (k : Keep W1 W2) : Keep W W2 := fun i o e => k i o (h i o e)

section
variable {P : Program}

theorem CT.mono {W W' : CW} (hk : Keep W W') : ∀ {n : Nat} {t : TypeId} {vs : List Value}, CT P n t W vs → CT P n t W' vs := by
  intro n
  induction n with
  | zero => intro t vs h; exact h
  | succ n ih =>
    intro t vs h
    simp only [CT] at h ⊢
    split at h <;> try exact h
    · rcases h with h | h | ⟨k, len, cap, f, h1, h2, h3, h4, h5, h6⟩
      · exact .inl h
      · exact .inr (.inl h)
      · exact .inr (.inr ⟨k, len, cap, f, h1, h2, h3, h4, hk _ _ h5, fun i hi => ih (h6 i hi)⟩)
    · exact ⟨h.1, fun f hf => ih (h.2 f hf)⟩
    · exact ⟨h.1, fun i hi => ih (h.2 i hi)⟩

/-- What is reached by laying something out. -/
def Laid (P : Program) (w : World) (ρ : Ren) (W : CW) (cs : List Value) (Q : CW → List Value → Prop) : Prop :=
  ∃ vs ρ' W', Grow W ρ W' ρ' ∧ Keep W W' ∧ LRel ρ' vs cs ∧ WRel P w ρ' W' w ∧ Q W' vs

theorem layOk_le {okT : TypeId → Bool} : ∀ {fs : List Field} {off total : Nat}, layOk P okT fs off total = true → off ≤ total ∧ ∀ f, f ∈ fs → off ≤ f.offset ∧ f.offset + P.cellsOf f.type ≤ total
  | [], off, total, h => ⟨Nat.le_of_eq (Nat.eq_of_beq_eq_true h), fun f hf => by cases hf⟩
  | g :: fs, off, total, h => by
    simp only [layOk, Bool.and_eq_true] at h
    have h1 := Nat.eq_of_beq_eq_true h.1.1
    obtain ⟨h2, h3⟩ := layOk_le h.2
    refine ⟨by omega, fun f hf => ?_⟩
    rcases List.mem_cons.1 hf with rfl | hf
    · omega
    · have := h3 f hf; omega

theorem lay_fields {w : World} {n : Nat} {okT' : TypeId → Bool} {cs : List Value} {total : Nat} (hcs : cs.length = total) : ∀ (fs : List Field) (off : Nat), layOk P okT' fs off total = true →
    (∀ f, f ∈ fs → okT' f.type = true → ∀ ρ W, WRel P w ρ W w → Laid P w ρ W ((cs.drop f.offset).take (P.cellsOf f.type)) (CT P n f.type)) → ∀ ρ W, WRel P w ρ W w →
    Laid P w ρ W (cs.drop off) fun W' vs => ∀ f, f ∈ fs → CT P n f.type W' ((vs.drop (f.offset - off)).take (P.cellsOf f.type))
  | [], off, h, _, ρ, W, hw => by
    have := Nat.eq_of_beq_eq_true h
    have hnil : cs.drop off = [] := List.drop_eq_nil_of_le (by omega)
    rw [hnil]
    exact ⟨[], ρ, W, .refl _, .refl _, .nil _, hw, fun f hf => by cases hf⟩
  | g :: fs, off, h, hp, ρ, W, hw => by
    simp only [layOk, Bool.and_eq_true] at h
    have h1 := Nat.eq_of_beq_eq_true h.1.1
    obtain ⟨h2, h3⟩ := layOk_le h.2
    obtain ⟨v1, ρ1, W1, g1, k1, l1, w1, c1⟩ := hp g (by simp) h.1.2 ρ W hw
    obtain ⟨v2, ρ2, W2, g2, k2, l2, w2, c2⟩ := lay_fields hcs fs _ h.2 (fun f hf => hp f (by simp [hf])) ρ1 W1 w1
    have hv1 : v1.length = P.cellsOf g.type := by
      have := l1.1
      simp only [List.length_take, List.length_drop] at this
      omega
    refine ⟨v1 ++ v2, ρ2, W2, g1.trans g2, k1.trans k2, ?_, w2, fun f hf => ?_⟩
    · have := (l1.mono g2.ext).append l2
      rw [h1, ← List.drop_drop, List.take_append_drop] at this
      exact this
    · rcases List.mem_cons.1 hf with rfl | hf
      · rw [h1, Nat.sub_self, List.drop_zero, ← hv1, List.take_left']
        · exact c1.mono k2
        · rfl
      · have h4 := (h3 f hf).1
        have := c2 f hf
        have e : f.offset - off = v1.length + (f.offset - (off + P.cellsOf g.type)) := by omega
        rw [e, ← List.drop_drop, List.drop_left]
        exact this

theorem lay_arr {w : World} {n : Nat} {e : TypeId} {s : Nat} {cs : List Value} : ∀ (m i : Nat), (i + m) * s ≤ cs.length →
    (∀ j, i ≤ j → j < i + m → ∀ ρ W, WRel P w ρ W w → Laid P w ρ W ((cs.drop (j * s)).take s) (CT P n e)) → ∀ ρ W, WRel P w ρ W w →
    Laid P w ρ W ((cs.drop (i * s)).take (m * s)) fun W' vs => ∀ j, j < m → CT P n e W' ((vs.drop (j * s)).take s)
  | 0, i, h, _, ρ, W, hw => by
    rw [Nat.zero_mul, List.take_zero]
    exact ⟨[], ρ, W, .refl _, .refl _, .nil _, hw, fun j hj => by omega⟩
  | m + 1, i, h, hp, ρ, W, hw => by
    obtain ⟨v1, ρ1, W1, g1, k1, l1, w1, c1⟩ := hp i (Nat.le_refl _) (by omega) ρ W hw
    have hh : (i + 1 + m) * s ≤ cs.length := by rw [show i + 1 + m = i + (m + 1) by omega]; exact h
    obtain ⟨v2, ρ2, W2, g2, k2, l2, w2, c2⟩ := lay_arr m (i + 1) hh (fun j h1 h2 => hp j (by omega) (by omega)) ρ1 W1 w1
    have hm : (i + 1) * s ≤ cs.length := Nat.le_trans (Nat.mul_le_mul_right _ (by omega)) h
    have hv1 : v1.length = s := by
      have := l1.1
      simp only [List.length_take, List.length_drop] at this
      rw [Nat.add_mul, Nat.one_mul] at hm
      omega
    refine ⟨v1 ++ v2, ρ2, W2, g1.trans g2, k1.trans k2, ?_, w2, fun j hj => ?_⟩
    · have := (l1.mono g2.ext).append l2
      have e : (cs.drop (i * s)).take ((m + 1) * s) = (cs.drop (i * s)).take s ++ (cs.drop ((i + 1) * s)).take (m * s) := by
        rw [Nat.add_mul i 1 s, Nat.one_mul, ← List.drop_drop, Nat.add_mul m 1 s, Nat.one_mul, Nat.add_comm (m * s) s, List.take_add]
      rw [e]; exact this
    · cases j with
      | zero =>
        rw [Nat.zero_mul, List.drop_zero, ← hv1, List.take_left']
        · exact c1.mono k2
        · rfl
      | succ j =>
        have := c2 j (by omega)
        have e : (j + 1) * s = v1.length + j * s := by rw [Nat.add_mul, Nat.one_mul, hv1]; omega
        rw [e, ← List.drop_drop, List.drop_left]
        exact this

theorem siz_cells {e : TypeId} {s : Nat} (h : siz P e = some s) : P.cellsOf e = s := by
  unfold siz at h
  simp [Program.cellsOf, h]

theorem cell_spot {w : World} {a : Addr} {v : Value} (h : w.cell? a = some v) : a.spot = none ∧ ∃ c e fr, w.heap[a.block]? = some (.cells c e fr) ∧ c[a.off]? = some v := by
  unfold World.cell? at h
  split at h
  · rename_i c e fr hb
    split at h
    · cases h
    · rename_i hs
      exact ⟨by simpa using hs, c, e, fr, hb, h⟩
  · cases h

/-- **WHAT READS IS LAID OUT.** -/
theorem place {H : Type} {enc : TypeId × Value → H} {w : World} {held : Bool} : ∀ (n : Nat) (t : TypeId) (fuel : Nat) (cs : List Value) (x : DataW H × List MemPlace), okT P n t = true → DataW.trod enc P w 0 (fun _ => true) held fuel t cs = some x →
    ∀ ρ W, WRel P w ρ W w → Laid P w ρ W cs (CT P n t) := by
  intro n
  induction n with
  | zero => intro t fuel cs x h; cases h
  | succ n ih =>
    intro t fuel cs x hok h ρ W hw
    simp only [okT] at hok
    split at hok
    · rename_i ht
      obtain ⟨b, rfl, _⟩ := DataW.trod_bool ht h
      exact ⟨[.bool b], ρ, W, .refl _, .refl _, .cons (.bool _) (.nil _), hw, by simp only [CT, ht]; exact ⟨b, rfl⟩⟩
    · rename_i k ht
      obtain ⟨i, rfl, _, hwf⟩ := DataW.trod_int ht h
      exact ⟨[.int k i], ρ, W, .refl _, .refl _, .cons (.int _ _) (.nil _), hw, by simp only [CT, ht]; exact ⟨i, rfl, hwf⟩⟩
    · rename_i ht
      obtain ⟨s, rfl, _, hl⟩ := DataW.trod_string ht h
      exact ⟨[.string s], ρ, W, .refl _, .refl _, .cons (.string _) (.nil _), hw, by simp only [CT, ht]; exact ⟨s, rfl, hl⟩⟩
    · rename_i e ht
      simp only [Bool.and_eq_true] at hok
      obtain ⟨h1, hoe⟩ := hok
      split at h1
      rotate_left
      · cases h1
      rename_i s hs
      have hs0 : 0 < s := by have := Nat.le_of_ble_eq_true h1; omega
      have hcs := siz_cells hs
      rcases DataW.trod_slice ht h with ⟨rfl, _⟩ | ⟨a, len, cap, elems, rest, m, _, rfl, _, _, hlc, hcm, hel, helems, hrest, _⟩
      · exact ⟨[.slice none 0 0], ρ, W, .refl _, .refl _, .cons (.snil _ _) (.nil _), hw, by simp only [CT, ht]; exact .inl trivial⟩
      · obtain ⟨hrl, hrest⟩ := hrest rfl
        rw [hcs] at helems hrest
        by_cases hc0 : cap = 0
        · subst hc0
          have : len = 0 := by omega
          subst this
          exact ⟨[.slice (some ⟨0, 0, some 0⟩) 0 0], ρ, W, .refl _, .refl _, .cons (.slice00 rfl) (.nil _), hw, by simp only [CT, ht]; exact .inr (.inl trivial)⟩
        · -- every place reads
          have reads : ∀ i, i < cap → ∃ l, w.cells? 0 (a.add (i * s)) s = some l ∧ (i < len → ∃ y, DataW.trod enc P w 0 (fun _ => true) held m e l = some y) := by
            intro i hi
            by_cases hil : i < len
            · have := helems i hil
              rw [List.getElem?_eq_getElem (by omega)] at this
              obtain ⟨l, hl, hy⟩ := Option.bind_eq_some_iff.1 this
              exact ⟨l, hl, fun _ => ⟨_, hy⟩⟩
            · have := hrest (i - len) (by omega)
              rw [List.getElem?_eq_getElem (by omega), show len + (i - len) = i by omega] at this
              obtain ⟨l, hl, hy⟩ := Option.bind_eq_some_iff.1 this
              exact ⟨l, hl, fun h => absurd h hil⟩
          have cell : ∀ i j, i < cap → j < s → ∃ v, w.cell? ((a.add (i * s)).add j) = some v := by
            intro i j hi hj
            obtain ⟨l, hl, _⟩ := reads i hi
            unfold World.cells? at hl
            rw [if_pos (Nat.zero_le _)] at hl
            have := mapM_some_get hl j j (by simp [hj])
            have hlen := mapM_some_length hl
            rw [List.length_range] at hlen
            rw [List.getElem?_eq_getElem (by omega)] at this
            exact ⟨_, this⟩
          obtain ⟨v0, hv0⟩ := cell 0 0 (by omega) hs0
          have ha0 : (a.add (0 * s)).add 0 = a := by simp [Addr.add]
          rw [ha0] at hv0
          obtain ⟨hsp, c', e', fr, hb, _⟩ := cell_spot hv0
          obtain ⟨ab, ao, asp⟩ := a
          simp only at hsp hb
          subst hsp
          have adds : ∀ i j, ((⟨ab, ao, none⟩ : Addr).add i).add j = ⟨ab, ao + (i + j), none⟩ := by
            intro i j; rw [add_of, add_of]; congr 1; omega
          have cellv : ∀ k, k < cap * s → ∃ v, c'[ao + k]? = some v := by
            intro k hk
            have h1 : k / s < cap := Nat.div_lt_of_lt_mul (by rw [Nat.mul_comm]; exact hk)
            have h2 : k % s < s := Nat.mod_lt _ hs0
            obtain ⟨v, hv⟩ := cell (k / s) (k % s) h1 h2
            rw [adds] at hv
            have e : k / s * s + k % s = k := by rw [Nat.mul_comm]; exact Nat.div_add_mod k s
            rw [e] at hv
            obtain ⟨_, c2, e2, f2, hb2, hv2⟩ := cell_spot hv
            simp only at hb2 hv2
            rw [hb] at hb2; cases hb2
            exact ⟨v, hv2⟩
          have hsz : ao + cap * s ≤ c'.size := by
            have hp : 0 < cap * s := Nat.mul_pos (by omega) hs0
            obtain ⟨v, hv⟩ := cellv (cap * s - 1) (by omega)
            have := (Array.getElem?_eq_some_iff.1 hv).1
            omega
          have hls : len * s ≤ cap * s := Nat.mul_le_mul_right _ hlc
          -- the cells, as a list
          let C : List Value := (List.range (len * s)).map fun k => c'.getD (ao + k) undef
          have hC : C.length = len * s := by simp [C]
          have hCg : ∀ k, k < len * s → C[k]? = some (c'.getD (ao + k) undef) := fun k hk => by simp [C, hk]
          obtain ⟨V, ρ1, W1, g1, k1, l1, w1, c1⟩ := lay_arr (P := P) (w := w) (n := n) (e := e) (s := s) (cs := C) len 0 (by rw [hC, Nat.zero_add]; exact Nat.le_refl _) (fun j _ hj ρ W hw => by
            have hj : j < len := by omega
            obtain ⟨l, hl, hy⟩ := reads j (by omega)
            obtain ⟨y, hy⟩ := hy hj
            have : (C.drop (j * s)).take s = l := by
              unfold World.cells? at hl
              rw [if_pos (Nat.zero_le _)] at hl
              have hlen := mapM_some_length hl
              rw [List.length_range] at hlen
              have hjs : (j + 1) * s ≤ len * s := Nat.mul_le_mul_right _ hj
              rw [Nat.add_mul, Nat.one_mul] at hjs
              apply List.ext_getElem?
              intro i
              by_cases hi : i < s
              · have h1 := mapM_some_get hl i i (by simp [hi])
                rw [adds] at h1
                rw [List.getElem?_take, if_pos hi, List.getElem?_drop, hCg _ (by omega), ← h1]
                unfold World.cell?
                simp only [hb]
                have : ao + (j * s + i) < c'.size := by omega
                simp [Array.getD, this]
              · rw [List.getElem?_take, if_neg hi, List.getElem?_eq_none (by omega)]
            rw [this]
            exact ih e m l y hoe hy ρ W hw) ρ W hw
          have hfull : (C.drop (0 * s)).take (len * s) = C := by
            rw [Nat.zero_mul, List.drop_zero, List.take_of_length_le (by omega)]
          rw [hfull] at l1
          have hV : V.length = len * s := by rw [l1.1, hC]
          obtain ⟨g2, w2⟩ := w1.newFixed (e := e) (f := fun k => V.getD k undef) ⟨ab, ao, s, len * s, c'.size⟩ hb rfl (by show ao + len * s ≤ c'.size; omega) (by exact hs) (fun k hk => by
            have hk : k < len * s := hk
            have := l1.2 k (by omega)
            rw [List.getD_eq_getElem?_getD (l := C), hCg k hk] at this
            show VRel ρ1 (V.getD k undef) (c'.getD (k + ao) undef)
            rw [Nat.add_comm k ao]; exact this)
          have hkeep : Keep W1 (W1.new (.fixed (fun k => V.getD k undef) (len * s) e)) := fun i o ho => by
            have := w1.top i o ho
            simp only [CW.obj, CW.new, Tr.get_set]
            rw [if_neg (by omega)]; exact ho
          refine ⟨[.slice (some ⟨W1.sz, 0, none⟩) len cap], _, _, g1.trans g2, k1.trans hkeep, .cons (.slice _ ⟨rfl, ⟨ab, ao, s, len * s, c'.size⟩, by simp, by simp⟩ (.inl rfl)) (.nil _), w2, ?_⟩
          simp only [CT, ht]
          refine .inr (.inr ⟨W1.sz, len, cap, fun k => V.getD k undef, rfl, by omega, hlc, hcm, by simp [CW.obj, CW.new, Tr.get_set, hcs], fun i hi => ?_⟩)
          rw [hcs]
          have hread : readFix (fun k => V.getD k undef) s (i * s) = (V.drop (i * s)).take s := by
            have his : (i + 1) * s ≤ len * s := Nat.mul_le_mul_right _ hi
            rw [Nat.add_mul, Nat.one_mul] at his
            apply List.ext_getElem?
            intro j
            by_cases hj : j < s
            · rw [List.getElem?_take, if_pos hj, List.getElem?_drop]
              have h1 := readFix_get (fun k => V.getD k undef) s (i * s) j hj
              rw [List.getD_eq_getElem?_getD, List.getElem?_eq_getElem (by rw [readFix_length]; exact hj), Option.getD_some] at h1
              rw [List.getElem?_eq_getElem (by rw [readFix_length]; exact hj), h1, List.getElem?_eq_getElem (by omega)]
              simp [List.getD_eq_getElem?_getD, show i * s + j < V.length by omega]
            · rw [List.getElem?_eq_none (by rw [readFix_length]; omega), List.getElem?_take, if_neg hj]
          rw [hread]
          exact (c1 i hi).mono hkeep
    · rename_i fs ht
      obtain ⟨xs, m, _, _, hl, hxl, hf⟩ := DataW.trod_struct ht h
      obtain ⟨vs, ρ1, W1, g1, k1, l1, w1, c1⟩ := lay_fields (P := P) (w := w) (n := n) (okT' := okT P n) (cs := cs) hl fs.toList 0 hok (fun f hf' hof ρ W hw => by
        obtain ⟨i, hi, he⟩ := List.getElem_of_mem hf'
        have hi' : i < fs.size := by simpa using hi
        have := hf i f (by rw [← he]; simp [hi'])
        rw [List.getElem?_eq_getElem (by omega)] at this
        exact ih f.type m _ _ hof this ρ W hw) ρ W hw
      rw [List.drop_zero] at l1
      refine ⟨vs, ρ1, W1, g1, k1, l1, w1, ?_⟩
      simp only [CT, ht]
      exact ⟨by rw [l1.1]; exact hl, fun f hf => by have := c1 f hf; simpa using this⟩
    · rename_i k e ht
      simp only [Bool.and_eq_true] at hok
      have htot := Nat.eq_of_beq_eq_true hok.2
      obtain ⟨xs, m, _, _, hl, hxl, hf⟩ := DataW.trod_array ht h
      obtain ⟨vs, ρ1, W1, g1, k1, l1, w1, c1⟩ := lay_arr (P := P) (w := w) (n := n) (e := e) (s := P.cellsOf e) (cs := cs) k 0 (by rw [hl, htot, Nat.zero_add]; exact Nat.le_refl _) (fun j _ hj ρ W hw => by
        have := hf j (by omega)
        rw [List.getElem?_eq_getElem (by omega)] at this
        exact ih e m _ _ hok.1 this ρ W hw) ρ W hw
      rw [Nat.zero_mul, List.drop_zero, List.take_of_length_le (by rw [hl, htot]; exact Nat.le_refl _)] at l1
      refine ⟨vs, ρ1, W1, g1, k1, l1, w1, ?_⟩
      simp only [CT, ht]
      exact ⟨by rw [l1.1]; exact hl, fun i hi => c1 i hi⟩
    · cases hok

end
end Go.Ce
