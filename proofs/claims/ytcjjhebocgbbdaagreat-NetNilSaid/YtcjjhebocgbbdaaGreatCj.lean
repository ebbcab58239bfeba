/- The canonical machine for closed runs: aggregates built and taken apart; addresses of their parts; slices made. -/
import Derived.Test.YtcjjhebocgbbdaaGreatCi
set_option linter.unusedSectionVars false
set_option linter.unusedVariables false
set_option linter.unusedSimpArgs false
namespace Go.Ce
open Go.RowKit (Below)

section
variable {P : Program} {w0 : World} {ρ : Ren} {W : CW} {w : World} {o : Oper} {e e' : Operand → Value} {outs : List (CNext × CW)}

theorem LRel.set {c c' : Array Value} (h : LRel ρ c.toList c'.toList) {v v' : Value} (hv : VRel ρ v v') (i : Nat) : LRel ρ (c.setIfInBounds i v).toList (c'.setIfInBounds i v').toList := by
  rw [LRel.arr] at h ⊢
  refine ⟨by simp [h.1], fun j hj => ?_⟩
  rw [Array.size_setIfInBounds] at hj
  have hj' : j < c'.size := h.1 ▸ hj
  have h2 := h.2 j hj
  simp only [Array.getD_eq_getD_getElem?] at h2 ⊢
  rw [Array.getElem?_setIfInBounds, Array.getElem?_setIfInBounds]
  by_cases e : i = j
  · rw [if_pos e, if_pos e, if_pos (by omega), if_pos (by omega)]; exact hv
  · rw [if_neg e, if_neg e]; exact h2

theorem foldl_set_rel (off : Nat) : ∀ (vs vs' : List Value) (k : Nat) (c c' : Array Value), LRel ρ vs vs' → LRel ρ c.toList c'.toList →
    LRel ρ ((vs.zipIdx k).foldl (fun cs (p : Value × Nat) => cs.setIfInBounds (off + p.2) p.1) c).toList ((vs'.zipIdx k).foldl (fun cs (p : Value × Nat) => cs.setIfInBounds (off + p.2) p.1) c').toList := by
  intro vs
  induction vs with
  | nil =>
    intro vs' k c c' h hc
    cases vs' with
    | nil => exact hc
    | cons y ys => have := h.1; simp at this
  | cons x xs ih =>
    intro vs' k c c' h hc
    cases vs' with
    | nil => have := h.1; simp at this
    | cons y ys =>
      simp only [List.zipIdx_cons, List.foldl_cons]
      exact ih ys (k + 1) _ _ h.tail (hc.set h.head _)

/-- Parts of an aggregate, one by one. -/
inductive PRel (ρ : Ren) : List (Nat × Value) → List (Nat × Value) → Prop
  | nil : PRel ρ [] []
  | cons (i : Nat) {v v' : Value} {xs ys : List (Nat × Value)} : VRel ρ v v' → PRel ρ xs ys → PRel ρ ((i, v) :: xs) ((i, v') :: ys)

theorem PRel.map (xs : List (Nat × Operand)) (h : ∀ p, p ∈ xs → VRel ρ (e p.2) (e' p.2)) : PRel ρ (xs.map fun (i, x) => (i, e x)) (xs.map fun (i, x) => (i, e' x)) := by
  induction xs with
  | nil => exact .nil
  | cons p xs ih => exact .cons _ (h p (by simp)) (ih fun q hq => h q (by simp [hq]))

theorem fill_rel (place : Nat → Option (Nat × Nat)) : ∀ {xs ys : List (Nat × Value)}, PRel ρ xs ys → ∀ {c c' r : Array Value}, LRel ρ c.toList c'.toList → Instr.fill place c xs = some r →
    ∃ r', Instr.fill place c' ys = some r' ∧ LRel ρ r.toList r'.toList := by
  intro xs ys h
  induction h with
  | nil =>
    intro c c' r hc hr
    simp only [Instr.fill, Option.some.injEq] at hr
    subst hr
    exact ⟨c', rfl, hc⟩
  | @cons i v v' xs ys hv hp ih =>
    intro c c' r hc hr
    rw [Instr.fill] at hr ⊢
    cases hpl : place i with
    | none => rw [hpl] at hr; cases hr
    | some q =>
      obtain ⟨off, size⟩ := q
      rw [hpl] at hr
      simp only at hr ⊢
      have hcells := hv.cells
      have e1 : v'.cells.size = v.cells.size := by have := hcells.1; simpa using this.symm
      have e2 : c'.size = c.size := by have := hc.1; simpa using this.symm
      rw [e1, e2]
      split at hr
      · cases hr
      · rename_i hcond
        rw [if_neg hcond]
        refine ih ?_ hr
        rw [← Array.foldl_toList, ← Array.foldl_toList, Array.toList_zipIdx, Array.toList_zipIdx]
        exact foldl_set_rel off _ _ 0 _ _ hcells hc

theorem mapM_places {fs : List Field} {pl : List (Nat × Nat)} (h : (fs.mapM fun f => (siz P f.type).map fun s => (f.offset, s)) = some pl) (w : World) :
    (fs.mapM fun f => (do pure (f.offset, ← sizeOf f.type) : Sem (Nat × Nat))).run P w = .ok pl w := by
  induction fs generalizing pl with
  | nil => simp only [List.mapM_nil, Option.pure_def, Option.some.injEq] at h; subst h; simp
  | cons f fs ih =>
    rw [List.mapM_cons] at h
    cases hs : siz P f.type with
    | none => simp [hs] at h
    | some s =>
      simp only [hs, Option.map_some, Option.bind_eq_bind, Option.bind_some] at h
      cases hr : (fs.mapM fun f => (siz P f.type).map fun s => (f.offset, s)) with
      | none => simp [hr] at h
      | some pl2 =>
        simp only [hr, Option.bind_some, Option.pure_def, Option.some.injEq] at h
        subst h
        rw [List.mapM_cons]
        simp only [Sem.run_bind, run_sizeOf' hs, Result.andThen_ok, Sem.run_pure, ih hr]

theorem op_build (hz : ZP P) {t : TypeId} {parts : Array (Nat × Operand)} (ho : o.op = .build t parts) (h : cop P o e W = some outs) (hw : WRel P w0 ρ W w) (hp : ∀ p, p ∈ parts.toList → VRel ρ (e p.2) (e' p.2)) :
    OpSound P w0 ρ W ((execOp e' o).run P w) outs := by
  simp only [cop, ho] at h
  obtain ⟨v, hv, rfl⟩ := vmatch h
  split at hv
  · rename_i z fields hzz ht
    split at hv
    · rename_i places hpl
      rw [Option.map_eq_some_iff] at hv
      obtain ⟨r, hr, rfl⟩ := hv
      obtain ⟨r', hr', hrel⟩ := fill_rel _ (PRel.map (e := e) (e' := e') parts.toList hp) (hz.rel hzz ρ).cells hr
      refine .value hw (v' := .agg r') ?_ (.agg' hrel)
      simp only [execOp, ho]
      refine exec_v ?_
      have hm : (fields.mapM fun f => (do pure (f.offset, ← sizeOf f.type) : Sem (Nat × Nat))).run P w = .ok places.toArray w := by
        have := mapM_places hpl w
        rw [← Array.toArray_toList (xs := fields), List.mapM_toArray]
        simp only [Sem.run_map, this, Result.andThen_ok]
      simp only [Instr.build, Sem.run_bind, run_zeroValue' hzz, Result.andThen_ok, run_underlying' ht, hm]
      have : (fun i : Nat => places.toArray[i]?) = (fun i : Nat => places[i]?) := by funext i; simp
      rw [this, Array.toList_map, hr']
      rfl
    · cases hv
  · rename_i z n elem hzz ht
    split at hv
    · rename_i s hs
      rw [Option.map_eq_some_iff] at hv
      obtain ⟨r, hr, rfl⟩ := hv
      obtain ⟨r', hr', hrel⟩ := fill_rel _ (PRel.map (e := e) (e' := e') parts.toList hp) (hz.rel hzz ρ).cells hr
      refine .value hw (v' := .agg r') ?_ (.agg' hrel)
      simp only [execOp, ho]
      refine exec_v ?_
      simp only [Instr.build, Sem.run_bind, run_zeroValue' hzz, Result.andThen_ok, run_underlying' ht, run_sizeOf' hs]
      rw [Array.toList_map, hr']
      rfl
    · cases hv
  · cases hv

/-- The cells of many zero values. -/
theorem zeros_rel (hz : ZP P) {t : TypeId} {z : Value} (hzz : zer P t = some z) (n : Nat) (hn : n = 0 ∨ 0 < z.cells.size) (k : Nat) (hk : k < n) :
    VRel ρ (cellAt .nil z.cells k) (((Array.range n).map (z.cells[· % z.cells.size]!)).getD k undef) := by
  have hpos : 0 < z.cells.size := by omega
  have hlt : k % z.cells.size < z.cells.size := Nat.mod_lt _ hpos
  have h1 : cellAt .nil z.cells k = z.cells.getD (k % z.cells.size) undef := rfl
  have h2 : ((Array.range n).map (z.cells[· % z.cells.size]!)).getD k undef = z.cells.getD (k % z.cells.size) undef := by
    simp [Array.getD_eq_getD_getElem?, hk, hlt]
  rw [h1, h2]
  have hc := (hz.rel hzz ρ).cells.2 (k % z.cells.size) (by simpa using hlt)
  simpa [Array.getD_eq_getD_getElem?, List.getD_eq_getElem?_getD] using hc

theorem op_buildSlice (hz : ZP P) {t : TypeId} {len : Nat} {parts : Array (Nat × Operand)} (ho : o.op = .buildSlice t len parts) (h : cop P o e W = some outs) (hw : WRel P w0 ρ W w) (hp : ∀ p, p ∈ parts.toList → VRel ρ (e p.2) (e' p.2)) :
    OpSound P w0 ρ W ((execOp e' o).run P w) outs := by
  simp only [cop, ho] at h
  obtain ⟨v, W1, hv, rfl⟩ := vwmatch h
  split at hv
  · rename_i elem ht
    obtain ⟨s, hs, hv⟩ := optB_some hv
    obtain ⟨z, hzz, hv⟩ := optB_some hv
    rw [cond_eq_ite] at hv
    split at hv
    · rename_i hcond
      simp only [Bool.and_eq_true] at hcond
      have hle := Nat.le_of_ble_eq_true hcond.1
      have hsz := Nat.eq_of_beq_eq_true hcond.2
      split at hv
      · rename_i cs hfill
        simp only [Option.some.injEq, Prod.mk.injEq] at hv
        obtain ⟨rfl, rfl⟩ := hv
        have hzero : len * s = 0 ∨ 0 < z.cells.size := by
          rw [hsz]
          rcases Nat.eq_zero_or_pos s with h0 | h0
          · left; rw [h0]; rfl
          · exact .inr h0
        -- the zero cells on both sides
        have hinit : LRel ρ ((readCells .nil z.cells (len * s) 0).toArray).toList ((Array.range (len * s)).map (z.cells[· % z.cells.size]!)).toList := by
          refine ⟨by simp [readCells_length], fun i hi => ?_⟩
          have hi : i < len * s := by simpa [readCells_length] using hi
          have := zeros_rel (ρ := ρ) hz hzz (len * s) hzero i hi
          have e1 := readCells_get .nil z.cells (len * s) 0 i hi
          rw [Nat.zero_add] at e1
          simp only [List.toList_toArray, e1]
          rw [Array.getD_eq_getD_getElem?, ← Array.getElem?_toList] at this
          rw [List.getD_eq_getElem?_getD]; exact this
        obtain ⟨r', hr', hrel⟩ := fill_rel _ (PRel.map (e := e) (e' := e') parts.toList hp) hinit hfill
        obtain ⟨ρ', hext, _, hw', ha⟩ := newCells hw (c := Tr.nil.putFrom 0 cs.toList) (z := #[]) (n := cs.size) (c' := r') hs (by simpa using hrel.1.symm) (fun k hk => by
          rw [cellAt_list _ _ _ (by simpa using hk)]
          have := hrel.2 k (by simpa using hk)
          simpa [Array.getD_eq_getD_getElem?, List.getD_eq_getElem?_getD] using this)
        refine ⟨_, _, ρ', List.mem_singleton.2 rfl, hext, .value (w := { w with heap := w.heap.push (.cells r' elem) }) ?_ (.slice _ ha (.inl rfl)) hw'⟩
        simp only [execOp, ho]
        refine exec_v ?_
        have hbig : ¬ len * s > 2 ^ 24 := by omega
        have range0 : ∀ f g : Nat → Value, len * s = 0 → (Array.range (len * s)).map f = (Array.range (len * s)).map g := fun f g h0 => by simp [h0]
        simp only [Instr.buildSlice, Sem.run_bind, run_underlying' ht, Result.andThen_ok, run_sizeOf' hs]
        rw [if_neg hbig]
        by_cases h0 : len * s = 0
        · rw [if_pos h0]
          simp only [Sem.run_bind, Sem.run_pure, Result.andThen_ok]
          rw [range0 _ (z.cells[· % z.cells.size]!) h0, Array.toList_map, hr']
          simp [newRow]
        · rw [if_neg h0]
          simp only [Sem.run_bind, run_zeroValue' hzz, Sem.run_pure, Result.andThen_ok]
          rw [Array.toList_map, hr']
          simp [newRow]
      · cases hv
    · cases hv
  · cases hv

theorem makeSlice_run {t elem : TypeId} {k1 k2 : IntKind} {ln cp : Int} {s : Nat} {z : Value} (ht : P.underlying t = some (.slice elem)) (hs : siz P elem = some s) (hzz : zer P elem = some z) (c1 : 0 ≤ ln) (c2 : ln ≤ cp) (c3 : cp ≤ 2000000)
    (c4 : (P.info? elem).map (·.bytes) |>.getD 0 |> (· ≤ 1024)) (w : World) :
    (Instr.makeSlice t (.int k1 ln) (.int k2 cp)).run P w = .ok (.slice (some ⟨w.heap.size, 0, none⟩) ln.toNat cp.toNat) { w with heap := w.heap.push (.cells ((Array.range (cp.toNat * s)).map (z.cells[· % z.cells.size]!)) elem) } := by
  obtain ⟨info, hinfo⟩ : ∃ i, P.info? elem = some i := by
    unfold siz at hs
    cases hi : P.info? elem with
    | none => simp [hi] at hs
    | some i => exact ⟨i, rfl⟩
  have hb : info.bytes ≤ 1024 := by simpa [hinfo] using c4
  have w1 : IntKind.i64.wrap ln = ln := by unfold IntKind.wrap; simp [IntKind.bits, IntKind.signed]; omega
  have w2 : IntKind.i64.wrap cp = cp := by unfold IntKind.wrap; simp [IntKind.bits, IntKind.signed]; omega
  have hbig : (info.bytes : Int) * cp ≤ 2 ^ 48 := by
    have h1 : (info.bytes : Int) * cp ≤ 1024 * cp := Int.mul_le_mul_of_nonneg_right (by omega) (by omega)
    omega
  have t1 : (decide (cp < 0) || decide ((info.bytes : Int) * cp > 2 ^ 48)) = false := by simp; omega
  simp only [Instr.makeSlice, Sem.run_bind, run_underlying' ht, Result.andThen_ok, asInt, asIntOf, Sem.run_pure, run_typeInfo' hinfo, w1, w2, t1, Bool.false_or, Bool.or_eq_true, decide_eq_true_eq]
  rw [if_neg (by omega)]
  simp only [Sem.run_bind, run_askRoom, Result.andThen_ok, run_sizeOf' hs]
  have range0 : ∀ f g : Nat → Value, cp.toNat * s = 0 → (Array.range (cp.toNat * s)).map f = (Array.range (cp.toNat * s)).map g := fun f g h0 => by simp [h0]
  by_cases h0 : cp.toNat * s = 0
  · rw [if_pos h0]
    simp only [Sem.run_bind, Sem.run_pure, Result.andThen_ok]
    rw [range0 _ (z.cells[· % z.cells.size]!) h0]
    simp [newRow]
  · rw [if_neg h0]
    simp only [Sem.run_bind, run_zeroValue' hzz, Sem.run_pure, Result.andThen_ok, newRow, run_newObj]

theorem op_makeSlice (hz : ZP P) {t : TypeId} {l c : Operand} (ho : o.op = .makeSlice t l c) (h : cop P o e W = some outs) (hw : WRel P w0 ρ W w) (hl : VRel ρ (e l) (e' l)) (hc : VRel ρ (e c) (e' c)) :
    OpSound P w0 ρ W ((execOp e' o).run P w) outs := by
  simp only [cop, ho] at h
  obtain ⟨v, W1, hv, rfl⟩ := vwmatch h
  split at hv
  · rename_i elem k1 ln k2 cp ht h1 h2
    rw [h1] at hl
    rw [h2] at hc
    generalize e1 : e' l = vl at hl
    generalize e2 : e' c = vc at hc
    cases hl
    cases hc
    obtain ⟨s, hs, hv⟩ := optB_some hv
    obtain ⟨z, hzz, hv⟩ := optB_some hv
    rw [cond_eq_ite] at hv
    split at hv
    · rename_i hcond
      simp only [Bool.and_eq_true, decide_eq_true_eq] at hcond
      obtain ⟨⟨⟨⟨⟨c1, c2⟩, c3⟩, c4⟩, c5⟩, c6⟩ := hcond
      have c4 := Nat.le_of_ble_eq_true c4
      have c5 := Nat.eq_of_beq_eq_true c5
      have c6 : 0 < s := by have := Nat.le_of_ble_eq_true c6; omega
      simp only [Option.some.injEq, Prod.mk.injEq] at hv
      obtain ⟨rfl, rfl⟩ := hv
      obtain ⟨ρ', hext, _, hw', ha⟩ := newCells hw (c := .nil) (z := z.cells) (n := cp.toNat * s) (c' := (Array.range (cp.toNat * s)).map (z.cells[· % z.cells.size]!)) hs (by simp) (fun k hk => zeros_rel hz hzz _ (.inr (by omega)) k hk)
      refine ⟨_, _, ρ', List.mem_singleton.2 rfl, hext, .value (w := { w with heap := w.heap.push (.cells ((Array.range (cp.toNat * s)).map (z.cells[· % z.cells.size]!)) elem) }) ?_ (.slice _ ha (.inl rfl)) hw'⟩
      simp only [execOp, ho, e1, e2]
      exact exec_v (makeSlice_run ht hs hzz c1 c2 c3 c4 w)
    · cases hv
  · cases hv

end
end Go.Ce
