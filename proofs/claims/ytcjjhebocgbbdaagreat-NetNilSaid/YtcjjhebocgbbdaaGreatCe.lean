/- The canonical machine for closed runs: what the model's loads and stores do to a block of cells. -/
import Derived.Test.YtcjjhebocgbbdaaGreatCd
set_option linter.unusedSectionVars false
set_option linter.unusedVariables false
set_option linter.unusedSimpArgs false
namespace Go.Ce
open Go.RowKit (Below)

section
variable {P : Program} {w : World} {b : Nat} {c : Array Value} {e : TypeId} {fr : Nat × Nat}

theorem cell_of (hb : w.heap[b]? = some (.cells c e fr)) (off : Nat) : w.cell? ⟨b, off, none⟩ = c[off]? := by
  simp [World.cell?, hb]
theorem frozen_of (hb : w.heap[b]? = some (.cells c e fr)) (hf : NF fr c.size) (off : Nat) (h : off < c.size) : w.frozen? ⟨b, off, none⟩ = false := by
  simp only [World.frozen?, hb]; exact hf off h
theorem setCell_of (hb : w.heap[b]? = some (.cells c e fr)) (off : Nat) (v : Value) :
    w.setCell ⟨b, off, none⟩ v = { w with heap := w.heap.setIfInBounds b (.cells (c.setIfInBounds off v) e fr) } := by
  have hlt := (Array.getElem?_eq_some_iff.1 hb).1
  have hv := (Array.getElem?_eq_some_iff.1 hb).2
  simp only [World.setCell, World.mk.injEq, and_self, and_true]
  apply Array.ext_getElem?
  intro i
  rw [Array.getElem?_modify, Array.getElem?_setIfInBounds]
  by_cases h : b = i
  · subst h
    simp [hlt, hv]
  · rw [if_neg h, if_neg h]

theorem add_of (b off i : Nat) : (⟨b, off, none⟩ : Addr).add i = ⟨b, off + i, none⟩ := by
  unfold Addr.add
  split
  · rename_i h; simp [h]
  · rfl

def readFrom (c : Array Value) : Nat → Nat → List Value
  | 0, _ => []
  | m + 1, k => c.getD k undef :: readFrom c m (k + 1)

theorem readFrom_length (c : Array Value) : ∀ m k, (readFrom c m k).length = m
  | 0, _ => rfl
  | m + 1, k => by simp [readFrom, readFrom_length c m]

theorem run_loadCellsFrom (hb : w.heap[b]? = some (.cells c e fr)) (off : Nat) : ∀ (n i : Nat) (acc : Array Value), off + i + n ≤ c.size →
    (loadCellsFrom ⟨b, off, none⟩ i n acc).run P w = .ok (acc ++ (readFrom c n (off + i)).toArray) w := by
  intro n
  induction n with
  | zero => intro i acc _; simp [loadCellsFrom, readFrom]
  | succ n ih =>
    intro i acc h
    have hc : c[off + i]? = some (c.getD (off + i) undef) := by
      have : off + i < c.size := by omega
      simp [Array.getD, this]
    simp only [loadCellsFrom, Sem.run_bind, run_load, add_of, cell_of hb, hc, Result.andThen_ok]
    rw [ih (i + 1) _ (by omega)]
    simp only [readFrom]
    congr 1
    apply Array.ext'
    simp [Nat.add_assoc]

theorem run_loadCells (hb : w.heap[b]? = some (.cells c e fr)) (off n : Nat) (h : off + n ≤ c.size) :
    (loadCells ⟨b, off, none⟩ n).run P w = .ok (readFrom c n off).toArray w := by
  have := run_loadCellsFrom (P := P) hb off n 0 #[] (by omega)
  simpa [loadCells] using this

def writeTo (c : Array Value) : Nat → List Value → Array Value
  | _, [] => c
  | k, v :: vs => writeTo (c.setIfInBounds k v) (k + 1) vs

theorem writeTo_size : ∀ (vs : List Value) (c : Array Value) (k : Nat), (writeTo c k vs).size = c.size
  | [], _, _ => rfl
  | v :: vs, c, k => by simp [writeTo, writeTo_size vs]

theorem writeTo_get : ∀ (vs : List Value) (c : Array Value) (k j : Nat), k + vs.length ≤ c.size →
    (writeTo c k vs).getD j undef = if k ≤ j ∧ j < k + vs.length then vs.getD (j - k) undef else c.getD j undef := by
  intro vs
  induction vs with
  | nil => intro c k j _; simp only [writeTo, List.length_nil, Nat.add_zero]; rw [if_neg (by omega)]
  | cons v vs ih =>
    intro c k j h
    simp only [List.length_cons] at h
    rw [writeTo, ih _ _ _ (by simp; omega)]
    simp only [List.length_cons]
    by_cases h1 : k + 1 ≤ j ∧ j < k + 1 + vs.length
    · rw [if_pos h1, if_pos (by omega)]
      obtain ⟨m, rfl⟩ : ∃ m, j = k + (m + 1) := ⟨j - k - 1, by omega⟩
      have e1 : k + (m + 1) - (k + 1) = m := by omega
      have e2 : k + (m + 1) - k = m + 1 := by omega
      rw [e1, e2]; simp
    · rw [if_neg h1]
      by_cases ej : j = k
      · subst ej
        have : j < c.size := by omega
        simp [Array.getD_eq_getD_getElem?, this]
      · rw [if_neg (by omega)]
        simp only [Array.getD_eq_getD_getElem?]
        rw [Array.getElem?_setIfInBounds_ne (by omega)]

theorem oneCell_of {v : Value} (h : oneCell v = true) : v.oneCell' = true := by cases v <;> simp_all [oneCell, Value.oneCell']

theorem run_storeCells (off : Nat) : ∀ (vs : List Value) (i : Nat) (w : World) (c : Array Value), w.heap[b]? = some (.cells c e fr) → NF fr c.size → off + i + vs.length ≤ c.size → vs.all oneCell = true →
    (storeCells ⟨b, off, none⟩ vs i).run P w = .ok () { w with heap := w.heap.setIfInBounds b (.cells (writeTo c (off + i) vs) e fr) } := by
  intro vs
  induction vs with
  | nil =>
    intro i w c hb _ _ _
    have hlt := (Array.getElem?_eq_some_iff.1 hb).1
    have hv := (Array.getElem?_eq_some_iff.1 hb).2
    simp only [storeCells, Sem.run_pure, writeTo]
    congr 1
    have : w.heap.setIfInBounds b (.cells c e fr) = w.heap := by
      apply Array.ext_getElem?
      intro j
      rw [Array.getElem?_setIfInBounds]
      by_cases h : b = j
      · subst h; simp [hlt, hv]
      · rw [if_neg h]
    rw [this]
  | cons v vs ih =>
    intro i w c hb hnf h hall
    simp only [List.length_cons] at h
    simp only [List.all_cons, Bool.and_eq_true] at hall
    have hc : c[off + i]? = some (c.getD (off + i) undef) := by
      have : off + i < c.size := by omega
      simp [Array.getD, this]
    have hlt := (Array.getElem?_eq_some_iff.1 hb).1
    simp only [storeCells, Sem.run_bind, add_of]
    rw [run_store P w _ v _ (oneCell_of hall.1)]
    simp only [cell_of hb, hc, frozen_of hb hnf (off + i) (by omega), Bool.false_eq_true, if_false, Result.andThen_ok, setCell_of hb]
    rw [ih (i + 1) _ (c.setIfInBounds (off + i) v) (by simp [hlt]) (by simpa using hnf) (by simp; omega) hall.2]
    simp [writeTo, Nat.add_assoc]

theorem run_underlying (t : TypeId) (w : World) : (underlying t).run P w = match P.underlying t with | some d => .ok d w | none => .halt (.stuck "no such type") w := by
  simp only [underlying, Sem.run_bind, run_program, Result.andThen_ok]
  cases P.underlying t <;> rfl
theorem run_underlying' {t : TypeId} {d : TypeDesc} (h : P.underlying t = some d) (w : World) : (underlying t).run P w = .ok d w := by rw [run_underlying, h]
theorem run_typeInfo' {t : TypeId} {i : TypeInfo} (h : P.info? t = some i) (w : World) : (typeInfo t).run P w = .ok i w := by
  simp only [typeInfo, Sem.run_bind, run_program, Result.andThen_ok, h]; rfl
theorem run_sizeOf' {t : TypeId} {n : Nat} (h : siz P t = some n) (w : World) : (sizeOf t).run P w = .ok n w := by
  unfold siz at h
  cases hi : P.info? t with
  | none => simp [hi] at h
  | some i => simp only [hi, Option.map_some, Option.some.injEq] at h; simp [sizeOf, run_typeInfo' hi, h]
theorem run_zeroValue' {t : TypeId} {z : Value} (h : zer P t = some z) (w : World) : (zeroValue t).run P w = .ok z w := by
  unfold zer at h
  cases hi : P.info? t with
  | none => simp [hi] at h
  | some i =>
    simp only [hi, Option.bind_some, cond_eq_ite] at h
    split at h
    · simp [zeroValue, run_typeInfo' hi, h]
    · cases h
theorem run_isAgg' {t : TypeId} {x : Bool} (h : agg? P t = some x) (w : World) : (isAgg t).run P w = .ok x w := by
  unfold agg? at h
  cases hd : P.underlying t with
  | none => simp [hd] at h
  | some d =>
    simp only [hd, Option.map_some, Option.some.injEq] at h
    subst h
    simp only [isAgg, Sem.run_bind, run_underlying' hd, Result.andThen_ok]
    cases d <;> rfl
end

section
variable {P : Program} {w0 : World} {ρ : Ren} {W : CW} {w : World}

theorem readFrom_get (c : Array Value) : ∀ (m k i : Nat), i < m → (readFrom c m k).getD i undef = c.getD (k + i) undef
  | 0, _, _, h => by omega
  | m + 1, k, 0, _ => by simp [readFrom]
  | m + 1, k, i + 1, h => by
    have := readFrom_get c m (k + 1) i (by omega)
    simp only [readFrom, List.getD_cons_succ, this]
    congr 1; omega

theorem readCells_get (c : Tr Value) (z : Array Value) : ∀ (m k i : Nat), i < m → (readCells c z m k).getD i undef = cellAt c z (k + i)
  | 0, _, _, h => by omega
  | m + 1, k, 0, _ => by simp [readCells]
  | m + 1, k, i + 1, h => by
    have := readCells_get c z m (k + 1) i (by omega)
    simp only [readCells, List.getD_cons_succ, this]
    congr 1; omega
theorem readCells_length (c : Tr Value) (z : Array Value) : ∀ m k, (readCells c z m k).length = m
  | 0, _ => rfl
  | m + 1, k => by simp [readCells, readCells_length c z m]

/-- Cells read on both sides. -/
theorem read_rel {c : Tr Value} {z : Array Value} {c' : Array Value} {n o : Nat} (h : ∀ k, k < n → VRel ρ (cellAt c z k) (c'.getD (k + o) undef)) (m k : Nat) (hm : k + m ≤ n) :
    LRel ρ (readCells c z m k) (readFrom c' m (k + o)) := by
  refine ⟨by rw [readCells_length, readFrom_length], fun i hi => ?_⟩
  rw [readCells_length] at hi
  rw [readCells_get _ _ _ _ _ hi, readFrom_get _ _ _ _ hi]
  have := h (k + i) (by omega)
  have e : k + i + o = k + o + i := by omega
  rwa [e] at this

theorem cellAt_put (c : Tr Value) (z : Array Value) (vs : List Value) (k j : Nat) :
    cellAt (c.putFrom k vs) z j = if k ≤ j ∧ j < k + vs.length then vs.getD (j - k) undef else cellAt c z j := by
  unfold cellAt
  rw [Tr.get_putFrom]
  by_cases h : k ≤ j ∧ j < k + vs.length
  · rw [if_pos h, if_pos h]
    have : j - k < vs.length := by omega
    simp [List.getD_eq_getElem?_getD, this]
  · rw [if_neg h, if_neg h]

/-- Cells written on both sides. -/
theorem ORel.write {fr : Nat × Nat} {x : Info} {c : Tr Value} {z : Array Value} {e : TypeId} {c' : Array Value} {n : Nat} (h : ORel P ρ x (.cells c n z e) (.cells c' e fr)) {vs vs' : List Value} (hv : LRel ρ vs vs') {k : Nat}
    (hk : k + vs.length ≤ n) : ORel P ρ x (.cells (c.putFrom k vs) n z e) (.cells (writeTo c' (k + x.o) vs') e fr) := by
  cases h with
  | cells he hs ho hc hq =>
    refine .cells he (by rw [writeTo_size]; exact hs) ho (fun j hj => ?_) (by rw [writeTo_size]; exact hq)
    rw [cellAt_put, writeTo_get _ _ _ _ (by rw [← hv.1]; omega), ← hv.1]
    by_cases h : k ≤ j ∧ j < k + vs.length
    · rw [if_pos h, if_pos (by omega)]
      have e : j + x.o - (k + x.o) = j - k := by omega
      rw [e]
      exact hv.2 _ (by omega)
    · rw [if_neg h, if_neg (by omega)]
      exact hc j hj

/-- A block of cells, looked up. -/
theorem WRel.cells (h : WRel P w0 ρ W w) {a a' : Addr} (ha : ARel ρ a a') {c : Tr Value} {n : Nat} {z : Array Value} {e : TypeId} (ho : W.obj a.block = some (.cells c n z e)) :
    ∃ x c' fr, ρ a.block = some x ∧ a' = ⟨x.b, a.off + x.o, none⟩ ∧ w.heap[x.b]? = some (.cells c' e fr) ∧ NF fr c'.size ∧ ORel P ρ x (.cells c n z e) (.cells c' e fr) ∧ x.n = n ∧ c'.size = x.n' ∧ x.o + n ≤ x.n' ∧
      (P.info? e).map (·.size) = some x.sz ∧ (∀ k, k < n → VRel ρ (cellAt c z k) (c'.getD (k + x.o) undef)) := by
  obtain ⟨_, x, hx, rfl⟩ := ha
  obtain ⟨o', ho', hr⟩ := h.obj ho (by simp) hx rfl
  cases hr with
  | cells he hs hoo hc hq => exact ⟨x, _, _, hx, rfl, ho', hq.1, .cells he hs hoo hc hq, rfl, hs, hoo, he, hc⟩

/-- A block of cells that came in, looked up. -/
theorem WRel.fixed (h : WRel P w0 ρ W w) {a a' : Addr} (ha : ARel ρ a a') {f : Nat → Value} {n : Nat} {e : TypeId} (ho : W.obj a.block = some (.fixed f n e)) :
    ∃ x c' e' fr, ρ a.block = some x ∧ a' = ⟨x.b, a.off + x.o, none⟩ ∧ w.heap[x.b]? = some (.cells c' e' fr) ∧ x.n = n ∧ c'.size = x.n' ∧ x.o + n ≤ x.n' ∧
      (P.info? e).map (·.size) = some x.sz ∧ (∀ k, k < n → VRel ρ (f k) (c'.getD (k + x.o) undef)) := by
  obtain ⟨_, x, hx, rfl⟩ := ha
  obtain ⟨o', ho', hr⟩ := h.obj ho (by simp) hx rfl
  cases hr with
  | fixed he hs hoo hc => exact ⟨x, _, _, _, hx, rfl, ho', rfl, hs, hoo, he, hc⟩

theorem readFix_length (f : Nat → Value) : ∀ m k, (readFix f m k).length = m
  | 0, _ => rfl
  | m + 1, k => by simp [readFix, readFix_length f m]
theorem readFix_get (f : Nat → Value) : ∀ (m k i : Nat), i < m → (readFix f m k).getD i undef = f (k + i)
  | 0, _, _, h => by omega
  | m + 1, k, 0, _ => rfl
  | m + 1, k, i + 1, h => by
    have := readFix_get f m (k + 1) i (by omega)
    simp only [readFix, List.getD_cons_succ, this]
    congr 1; omega
theorem readFix_rel {f : Nat → Value} {c' : Array Value} {n o : Nat} (h : ∀ k, k < n → VRel ρ (f k) (c'.getD (k + o) undef)) (m k : Nat) (hm : k + m ≤ n) :
    LRel ρ (readFix f m k) (readFrom c' m (k + o)) :=
  ⟨by rw [readFix_length, readFrom_length], fun i hi => by
    rw [readFix_length] at hi
    rw [readFix_get _ _ _ _ hi, readFrom_get _ _ _ _ hi]
    have := h (k + i) (by omega)
    have e : k + i + o = k + o + i := by omega
    rwa [e] at this⟩

theorem cload_sound (h : WRel P w0 ρ W w) {t : TypeId} {a a' : Addr} {v : Value} (ha : ARel ρ a a') (hl : cload P t a W = some v) :
    ∃ v', (loadVar t a').run P w = .ok v' w ∧ VRel ρ v v' := by
  unfold cload at hl
  split at hl
  · rename_i c n z e ho
    obtain ⟨x, c', fr, hx, rfl, hb, _, _, _, hs, hoo, _, hc⟩ := h.cells ha ho
    split at hl
    · rename_i hagg
      split at hl
      · rename_i m hm
        rw [cond_eq_ite] at hl
        split at hl
        · rename_i hle
          have hle := Nat.le_of_ble_eq_true hle
          cases hl
          refine ⟨.agg (readFrom c' m (a.off + x.o)).toArray, ?_, .agg' (by simpa using read_rel hc m a.off hle)⟩
          simp only [loadVar, Sem.run_bind, run_isAgg' hagg, Result.andThen_ok, if_true, run_sizeOf' hm]
          rw [run_loadCells hb _ _ (by omega)]
          rfl
        · cases hl
      · cases hl
    · rename_i hagg
      rw [cond_eq_ite] at hl
      split at hl
      · rename_i hlt
        have hlt : a.off < n := by have := Nat.le_of_ble_eq_true hlt; omega
        cases hl
        refine ⟨c'.getD (a.off + x.o) undef, ?_, hc _ hlt⟩
        have : c'[a.off + x.o]? = some (c'.getD (a.off + x.o) undef) := by
          have : a.off + x.o < c'.size := by omega
          simp [Array.getD, this]
        simp only [loadVar, Sem.run_bind, run_isAgg' hagg, Result.andThen_ok, Bool.false_eq_true, if_false, run_load, cell_of hb, this]
      · cases hl
    · cases hl
  · rename_i f n e ho
    obtain ⟨x, c', e', fr, hx, rfl, hb, _, hs, hoo, _, hc⟩ := h.fixed ha ho
    split at hl
    · rename_i hagg
      split at hl
      · rename_i m hm
        rw [cond_eq_ite] at hl
        split at hl
        · rename_i hle
          have hle := Nat.le_of_ble_eq_true hle
          cases hl
          refine ⟨.agg (readFrom c' m (a.off + x.o)).toArray, ?_, .agg' (by simpa using readFix_rel hc m a.off hle)⟩
          simp only [loadVar, Sem.run_bind, run_isAgg' hagg, Result.andThen_ok, if_true, run_sizeOf' hm]
          rw [run_loadCells hb _ _ (by omega)]
          rfl
        · cases hl
      · cases hl
    · rename_i hagg
      rw [cond_eq_ite] at hl
      split at hl
      · rename_i hlt
        have hlt : a.off < n := by have := Nat.le_of_ble_eq_true hlt; omega
        cases hl
        refine ⟨c'.getD (a.off + x.o) undef, ?_, hc _ hlt⟩
        have : c'[a.off + x.o]? = some (c'.getD (a.off + x.o) undef) := by
          have : a.off + x.o < c'.size := by omega
          simp [Array.getD, this]
        simp only [loadVar, Sem.run_bind, run_isAgg' hagg, Result.andThen_ok, Bool.false_eq_true, if_false, run_load, cell_of hb, this]
      · cases hl
    · cases hl
  · cases hl

theorem cells_all {v v' : Value} (h : VRel ρ v v') (hc : v.cells.toList.all oneCell = true) : v'.cells.toList.all oneCell = true := by
  have hl := h.cells
  rw [List.all_eq_true] at hc ⊢
  intro y hy
  obtain ⟨i, hi, rfl⟩ := List.getElem_of_mem hy
  have hi' : i < v.cells.toList.length := hl.1 ▸ hi
  have := hl.2 i hi'
  simp only [List.getD_eq_getElem?_getD, List.getElem?_eq_getElem hi, List.getElem?_eq_getElem hi', Option.getD_some] at this
  rw [this.one]
  exact hc _ (List.getElem_mem hi')

theorem storeVar_rel (h : WRel P w0 ρ W w) {t : TypeId} {a a' : Addr} {v v' : Value} (ha : ARel ρ a a') (hv : VRel ρ v v') {c : Tr Value} {n : Nat} {z : Array Value} {e : TypeId} {m : Nat}
    (ho : W.obj a.block = some (.cells c n z e)) (hm : siz P t = some m) (hsz : v.cells.size = m) (hle : a.off + m ≤ n) (hone : v.cells.toList.all oneCell = true) :
    ∃ w', (storeVar t a' v').run P w = .ok () w' ∧ WRel P w0 ρ (W.upd a.block (.cells (c.putFrom a.off v.cells.toList) n z e)) w' := by
  obtain ⟨x, c', fr, hx, rfl, hb, hnf, hr, _, hs, hoo, _, hc⟩ := h.cells ha ho
  have hl := hv.cells
  have hs' : v'.cells.size = m := by have := hl.1; simp at this; omega
  refine ⟨{ w with heap := w.heap.setIfInBounds x.b (.cells (writeTo c' (a.off + x.o) v'.cells.toList) e fr) }, ?_, ?_⟩
  · simp only [storeVar, Sem.run_bind, run_sizeOf' hm, Result.andThen_ok, hs', ne_eq, not_true, if_false]
    have := run_storeCells (P := P) (a.off + x.o) v'.cells.toList 0 w c' hb hnf (by simp; omega) (cells_all hv hone)
    simpa using this
  · exact h.upd ho rfl hx (hr.write hl (by simp; omega))

theorem cstore_sound (h : WRel P w0 ρ W w) {t : TypeId} {a a' : Addr} {v v' : Value} {W1 : CW} (ha : ARel ρ a a') (hv : VRel ρ v v') (hl : cstore P t a v W = some W1) :
    ∃ w', (storeVar t a' v').run P w = .ok () w' ∧ WRel P w0 ρ W1 w' := by
  unfold cstore at hl
  split at hl
  · rename_i c n z e ho
    split at hl
    · rename_i cs
      split at hl
      · rename_i m hm
        rw [cond_eq_ite] at hl
        split at hl
        · rename_i hcond
          simp only [Bool.and_eq_true] at hcond
          cases hl
          exact storeVar_rel h ha hv ho hm (Nat.eq_of_beq_eq_true hcond.1.1) (Nat.le_of_ble_eq_true hcond.1.2) hcond.2
        · cases hl
      · cases hl
    · cases hl
    · rename_i hna hnt
      split at hl
      · rename_i m hm
        rw [cond_eq_ite] at hl
        split at hl
        · rename_i hcond
          simp only [Bool.and_eq_true] at hcond
          cases hl
          have hone : oneCell v = true := by cases v <;> first | rfl | exact (hna _ rfl).elim | exact (hnt _ rfl).elim
          have hcells : v.cells = #[v] := by cases v <;> first | rfl | exact (hna _ rfl).elim
          have hm1 := Nat.eq_of_beq_eq_true hcond.1
          have hlt : a.off < n := by have := Nat.le_of_ble_eq_true hcond.2; omega
          have := storeVar_rel h ha hv ho hm (by rw [hcells]; simp [hm1]) (by omega) (by rw [hcells]; simp [hone])
          rw [hcells] at this
          exact this
        · cases hl
      · cases hl
  · cases hl

end
end Go.Ce
