/- The canonical machine for closed runs: the other built-in functions; every operation. -/
import Derived.Test.YtcajkpedfkkfpaaCm
set_option linter.unusedSectionVars false
set_option linter.unusedVariables false
set_option linter.unusedSimpArgs false
namespace Go.Ce
open Go.RowKit (Below)

section
variable {P : Program} {w0 : World} {ρ : Ren} {W : CW} {w : World} {o : Oper} {e e' : Operand → Value} {outs : List (CNext × CW)}

theorem ccopy_sound (hw : WRel P w0 ρ W w) {ts : Array TypeId} {t ty : TypeId} {d d' s s' v : Value} {W1 : CW} (h0 : ts[0]? = some t)
    (h : ccopy P t d s W = some (v, W1)) (hd : VRel ρ d d') (hs : VRel ρ s s') : ∃ v' w', (Builtin.copy_ ts ty #[d', s']).run P w = .ok v' w' ∧ VRel ρ v v' ∧ WRel P w0 ρ W1 w' := by
  unfold ccopy at h
  split at h
  · rename_i elem base dLen dCap sb sLen sCap ht
    obtain ⟨size, hsz, h2⟩ := optB_some h
    clear h
    obtain ⟨news, hnews, h⟩ := optB_some h2
    clear h2
    have hmin : Nat.min sLen dLen ≤ sLen := Nat.min_le_left _ _
    obtain ⟨news', hn', hrel⟩ := firstN_sound hw hs hmin hnews
    obtain ⟨sb', sCap', rfl, _⟩ := hs.slice_inv
    obtain ⟨base', dCap', rfl, hcase⟩ := hd.slice_inv
    have hrun : (Builtin.copy_ ts ty #[.slice base' dLen dCap', .slice sb' sLen sCap']).run P w = (do if let some a := base' then storeCells a news'.toList
                                                                                                        pure (goInt (Nat.min sLen dLen)) : Sem Value).run P w := by
      have hl : (Builtin.lenOf (.slice sb' sLen sCap')).run P w = .ok sLen w := rfl
      simp only [Builtin.copy_, h0, List.getElem?_toArray, List.getElem?_cons_zero, List.getElem?_cons_succ, Sem.run_bind, run_underlying' ht, Result.andThen_ok, hl, run_sizeOf' hsz, hn' w.drawn]
      cases base' <;> rfl
    rw [cond_eq_ite] at h
    split at h
    · rename_i hn0
      have hn0 := Nat.eq_of_beq_eq_true hn0
      simp only [Option.some.injEq, Prod.mk.injEq] at h
      obtain ⟨rfl, rfl⟩ := h
      refine ⟨_, w, ?_, .int _ _, hw⟩
      rw [hrun]
      have hnil : news'.toList = [] := by
        have hlen := hrel.1
        have : news = [] := by
          unfold firstN at hnews
          split at hnews
          · cases hnews; rfl
          · split at hnews
            · rw [cond_eq_ite] at hnews
              split at hnews
              · cases hnews; rw [hn0, Nat.zero_mul]; rfl
              · cases hnews
            · cases hnews
        rw [this] at hlen
        exact List.length_eq_zero_iff.1 hlen.symm
      rw [hnil]
      cases base' <;> simp [storeCells, goInt]
    · rename_i hn0
      rcases hcase with ⟨rfl, _, _⟩ | ⟨b, b', rfl, rfl, hcase⟩
      · cases h
      · simp only at h
        split at h
        · rename_i c m zz ee hobj
          rw [cond_eq_ite] at h
          split at h
          · rename_i hcond
            simp only [Bool.and_eq_true] at hcond
            have hle := Nat.le_of_ble_eq_true hcond.2
            simp only [Option.some.injEq, Prod.mk.injEq] at h
            obtain ⟨rfl, rfl⟩ := h
            rcases hcase with ⟨ha, _⟩ | ⟨hd0, _, _⟩
            · obtain ⟨x, c2', hx2, rfl, hbk, hr, hn, hsz2, hoo, _, hcc⟩ := hw.cells ha hobj
              have hw2 := hw.upd hobj (by simp) hx2 (hr.write (vs := news) (vs' := news'.toList) hrel (k := b.off) (by omega))
              refine ⟨_, _, ?_, .int _ _, hw2⟩
              rw [hrun]
              simp only [Sem.run_bind]
              rw [run_storeCells (P := P) (b.off + x.o) news'.toList 0 w c2' hbk (by have := hrel.1; omega) (hrel.allOne hcond.1)]
              simp only [Result.andThen_ok, Sem.run_pure, Nat.add_zero]
              rfl
            · exact (hn0 (by rw [hd0]; simp)).elim
          · cases h
        · cases h
  · cases h

theorem clen_sound (hw : WRel P w0 ρ W w) {ts : Array TypeId} {t ty : TypeId} {x x' v : Value} (h0 : ts[0]? = some t) (h : clen P t x W = some v) (hx : VRel ρ x x') :
    ∃ v', (Builtin.len_ ts ty #[x']).run P w = .ok v' w ∧ VRel ρ v v' := by
  unfold clen at h
  split at h
  · rename_i s ht
    cases h; cases hx
    exact ⟨_, by simp [Builtin.len_, h0, run_underlying' ht, goInt], .int _ _⟩
  · rename_i el a0 n c ht
    cases h
    obtain ⟨a', c', rfl, _⟩ := hx.slice_inv
    exact ⟨_, by simp [Builtin.len_, h0, run_underlying' ht, goInt], .int _ _⟩
  · rename_i kt el ht
    cases h; cases hx
    exact ⟨_, by simp [Builtin.len_, h0, run_underlying' ht, goInt], .int _ _⟩
  · rename_i kt el r ht
    cases hx with
    | map hb =>
      split at h
      · rename_i es clk hobj
        cases h
        obtain ⟨y, es', hy, rfl, _, hh, hrel⟩ := hw.mapAt hb hobj
        have hl := hrel.length
        refine ⟨.int .i64 es'.size, by simp [Builtin.len_, h0, run_underlying' ht, goInt, run_getObj' hh (by simp)], ?_⟩
        rw [hl]
        simpa using VRel.int .i64 _
      · cases h
  · cases h

theorem cdelete_sound (hw : WRel P w0 ρ W w) {ts : Array TypeId} {t ty : TypeId} {m m' k k' : Value} {W1 : CW} (h0 : ts[0]? = some t) (h : cdelete P t m k W = some W1) (hm : VRel ρ m m') (hk : VRel ρ k k') :
    ∃ w', (Builtin.delete_ ts ty #[m', k']).run P w = .ok (.tuple #[]) w' ∧ WRel P w0 ρ W1 w' := by
  unfold cdelete at h
  split at h
  · rename_i kt el r ht
    cases hm with
    | @map _ r' hb =>
      split at h
      · rename_i es clk hobj
        obtain ⟨f, hf, h2⟩ := optB_some h
        clear h
        have h := h2
        obtain ⟨y, es', hy, rfl, hy0, hh, hrel⟩ := hw.mapAt hb hobj
        obtain ⟨d, r', hd, hsk, hfind, hcase⟩ := cfind_sound hf hk hrel
        rcases hcase with ⟨rfl, rfl⟩ | ⟨j, x1, x1', en, rfl, rfl, hxx, hen, hsame⟩
        · cases h
          refine ⟨{ w with heap := w.heap.setIfInBounds y.b (.map es' clk) }, ?_, hw.upd hobj (by simp) hy (.map hy0 hrel)⟩
          simp [Builtin.delete_, h0, run_underlying' ht, run_getObj' hh (by simp), checkKey_run hd hsk, hfind, run_setObj' hh (by simp)]
        · cases h
          refine ⟨{ w with heap := w.heap.setIfInBounds y.b (.map (es'.eraseIdxIfInBounds j) clk) }, ?_, hw.upd hobj (by simp) hy (.map hy0 ?_)⟩
          · simp [Builtin.delete_, h0, run_underlying' ht, run_getObj' hh (by simp), checkKey_run hd hsk, hfind, run_setObj' hh (by simp)]
          · have := hrel.dropAt j
            have e1 : (es'.eraseIdxIfInBounds j).toList = es'.toList.eraseIdx j := by simp
            rw [e1]; exact this
      · cases h
  · cases h

theorem cclear_sound (hz : ZP P) (hw : WRel P w0 ρ W w) {ts : Array TypeId} {t ty : TypeId} {x x' : Value} {W1 : CW} (h0 : ts[0]? = some t) (h : cclear P t x W = some W1) (hx : VRel ρ x x') :
    ∃ w', (Builtin.clear_ ts ty #[x']).run P w = .ok (.tuple #[]) w' ∧ WRel P w0 ρ W1 w' := by
  unfold cclear at h
  split at h
  · rename_i kt el r ht
    split at h
    · rename_i es clk hobj
      cases h
      cases hx with
      | @map _ r' hb =>
        obtain ⟨y, es', hy, rfl, hy0, hh, hrel⟩ := hw.mapAt hb hobj
        refine ⟨{ w with heap := w.heap.setIfInBounds y.b (.map #[] clk) }, ?_, hw.upd hobj (by simp) hy (.map hy0 trivial)⟩
        simp [Builtin.clear_, h0, run_underlying' ht, run_getObj' hh (by simp), run_setObj' hh (by simp)]
    · cases h
  · rename_i kt el ht
    cases h; cases hx
    exact ⟨w, by simp [Builtin.clear_, h0, run_underlying' ht], hw⟩
  · rename_i el a n c ht
    obtain ⟨size, hsz, h2⟩ := optB_some h
    clear h
    obtain ⟨z0, hzz, h⟩ := optB_some h2
    clear h2
    obtain ⟨a', c', rfl, hcase⟩ := hx.slice_inv
    rw [cond_eq_ite] at h
    split at h
    · rename_i hn0
      have hn0 := Nat.eq_of_beq_eq_true hn0
      subst hn0
      cases h
      refine ⟨w, ?_, hw⟩
      cases a' <;> simp [Builtin.clear_, h0, run_underlying' ht]
    · rename_i hn0
      have hn0 : n ≠ 0 := fun h => hn0 (by rw [h]; rfl)
      split at h
      · rename_i cc m zz ee hobj
        rw [cond_eq_ite] at h
        split at h
        · rename_i hcond
          simp only [Bool.and_eq_true] at hcond
          have hle := Nat.le_of_ble_eq_true hcond.1
          cases h
          rcases hcase with ⟨h1, _⟩ | ⟨b, b', hb1, rfl, hcase⟩
          · cases h1
          · cases hb1
            rcases hcase with ⟨ha, _⟩ | ⟨h1, _⟩
            · obtain ⟨x, c2', hx2, rfl, hbk, hr, hn, hsz2, hoo, _, hcc⟩ := hw.cells ha hobj
              have hzl : LRel ρ (readCells .nil z0.cells (n * z0.cells.size) 0) (Builtin.zeroCells z0.cells n).toList := by
                refine ⟨by simp [readCells_length, Builtin.zeroCells], fun i hi => ?_⟩
                rw [readCells_length] at hi
                rw [readCells_get _ _ _ _ _ hi, Nat.zero_add]
                have h1 := zeros_rel (ρ := ρ) hz hzz (n * z0.cells.size) (by
                  rcases Nat.eq_zero_or_pos z0.cells.size with h0 | h0
                  · left; rw [h0]; rfl
                  · exact .inr h0) i hi
                simp only [Builtin.zeroCells]
                rw [Array.getD_eq_getD_getElem?, ← Array.getElem?_toList] at h1
                rw [List.getD_eq_getElem?_getD]; exact h1
              have hall : (Builtin.zeroCells z0.cells n).toList.all oneCell = true := by
                rw [List.all_eq_true]
                intro y hy
                simp only [Builtin.zeroCells, Array.toList_map, List.mem_map, Array.toList_range, List.mem_range] at hy
                obtain ⟨i, hi, rfl⟩ := hy
                have hpos : 0 < z0.cells.size := by
                  rcases Nat.eq_zero_or_pos z0.cells.size with h0 | h0
                  · rw [h0] at hi; omega
                  · exact h0
                have hlt : i % z0.cells.size < z0.cells.size := Nat.mod_lt _ hpos
                have := List.all_eq_true.1 hcond.2 (z0.cells[i % z0.cells.size]) (by simp)
                simpa [hlt] using this
              have hw2 := hw.upd hobj (by simp) hx2 (hr.write (vs := readCells .nil z0.cells (n * z0.cells.size) 0) hzl (k := a.off) (by rw [readCells_length]; omega))
              refine ⟨_, ?_, hw2⟩
              have hst := run_storeCells (P := P) (a.off + x.o) (Builtin.zeroCells z0.cells n).toList 0 w c2' hbk (by simp [Builtin.zeroCells]; omega) hall
              obtain ⟨n, rfl⟩ : ∃ k, n = k + 1 := ⟨n - 1, by omega⟩
              simp only [Builtin.clear_, h0, List.getElem?_toArray, List.getElem?_cons_zero, Sem.run_bind, run_underlying' ht, Result.andThen_ok, run_zeroValue' hzz, hst, Sem.run_pure, Nat.add_zero]
            · exact (hn0 h1).elim
        · cases h
      · cases h
  · rename_i el n c ht
    cases h
    obtain ⟨a', c', rfl, hcase⟩ := hx.slice_inv
    have : a' = none := by
      rcases hcase with ⟨_, h, _⟩ | ⟨b, b', h, _⟩
      · exact h
      · cases h
    subst this
    refine ⟨w, ?_, hw⟩
    cases n <;> simp [Builtin.clear_, h0, run_underlying' ht]
  · cases h

theorem ccopy_sz {t : TypeId} {d s v : Value} {W1 : CW} (h : ccopy P t d s W = some (v, W1)) : W.sz ≤ W1.sz := by
  unfold ccopy at h
  split at h
  · obtain ⟨_, _, h⟩ := optB_some h
    obtain ⟨_, _, h⟩ := optB_some h
    repeat' (first | (cases h; done) | (cases h; exact Nat.le_refl _) | (rw [cond_eq_ite] at h) | split at h)
  · cases h
theorem cdelete_sz {t : TypeId} {d s : Value} {W1 : CW} (h : cdelete P t d s W = some W1) : W.sz ≤ W1.sz := by
  unfold cdelete at h
  split at h
  · split at h
    · obtain ⟨_, _, h⟩ := optB_some h
      repeat' (first | (cases h; done) | (cases h; exact Nat.le_refl _) | (rw [cond_eq_ite] at h) | split at h)
    · cases h
  · cases h
theorem cclear_sz {t : TypeId} {d : Value} {W1 : CW} (h : cclear P t d W = some W1) : W.sz ≤ W1.sz := by
  unfold cclear at h
  split at h
  · repeat' (first | (cases h; done) | (cases h; exact Nat.le_refl _) | (rw [cond_eq_ite] at h) | split at h)
  · cases h; exact Nat.le_refl _
  · obtain ⟨_, _, h⟩ := optB_some h
    obtain ⟨_, _, h⟩ := optB_some h
    repeat' (first | (cases h; done) | (cases h; exact Nat.le_refl _) | (rw [cond_eq_ite] at h) | split at h)
  · cases h; exact Nat.le_refl _
  · cases h

theorem exec_builtin {c : Call} {b : Builtin} (ho : o.op = .call c) (hf : c.callee = .builtin b) (w : World) :
    (execOp e' o).run P w = (builtin b c.argTypes o.type (c.args.map fun | .const _ => true | _ => false) (c.args.map e')).run P w := by
  simp only [execOp, ho, resolve, hf, Sem.run_bind, Sem.run_pure, Result.andThen_ok, invoke]
  rfl

theorem list1 {α : Type} {a : Array α} {x : α} {l : List α} (h : a.toList = x :: l) : a[0]? = some x := by rw [← Array.getElem?_toList, h]; rfl
theorem list2 {α : Type} {a : Array α} {x y : α} {l : List α} (h : a.toList = x :: y :: l) : a[1]? = some y := by rw [← Array.getElem?_toList, h]; rfl
theorem ofList {α : Type} {a : Array α} {l : List α} (h : a.toList = l) : a = l.toArray := by rw [← h]

theorem op_builtin (hz : ZP P) {c : Call} {b : Builtin} (ho : o.op = .call c) (hf : c.callee = .builtin b) (h : cop P o e W = some outs) (hw : WRel P w0 ρ W w)
    (ha : ∀ x, x ∈ c.args.toList → VRel ρ (e x) (e' x)) : OpSound P w0 ρ W ((execOp e' o).run P w) outs := by
  rw [exec_builtin ho hf]
  simp only [cop, ho, hf] at h
  split at h
  rotate_left
  · cases h
  rename_i r hr
  cases h
  generalize hB : c.args.map e' = B
  have hargs : LRel ρ (c.args.toList.map e) B.toList := by rw [← hB]; simpa using LRel.map (ρ := ρ) c.args.toList e e' ha
  clear hB
  generalize c.args.toList.map e = A at hr hargs
  unfold cbuiltin at hr
  have one : ∀ {x : Value}, LRel ρ [x] B.toList → ∃ x', B = #[x'] ∧ VRel ρ x x' := by
    intro x hl
    cases hB : B.toList with
    | nil => rw [hB] at hl; have := hl.1; simp at this
    | cons y ys =>
      rw [hB] at hl
      have : ys = [] := by have := hl.1; simp at this; first | exact this | exact this.symm | exact List.length_eq_zero_iff.1 this.symm
      subst this
      exact ⟨y, ofList hB, hl.head⟩
  have two : ∀ {x y : Value}, LRel ρ [x, y] B.toList → ∃ x' y', B = #[x', y'] ∧ VRel ρ x x' ∧ VRel ρ y y' := by
    intro x y hl
    cases hB : B.toList with
    | nil => rw [hB] at hl; have := hl.1; simp at this
    | cons x' ys =>
      rw [hB] at hl
      have h1 := hl.head
      have hl := hl.tail
      cases ys with
      | nil => have := hl.1; simp at this
      | cons y' ys =>
        have : ys = [] := by have := hl.1; simp at this; first | exact this | exact this.symm | exact List.length_eq_zero_iff.1 this.symm
        subst this
        exact ⟨x', y', ofList hB, h1, hl.head⟩
  split at hr
  · rename_i t ts x hts
    obtain ⟨x', rfl, hx⟩ := one hargs
    rw [Option.map_eq_some_iff] at hr
    obtain ⟨v, hv, rfl⟩ := hr
    obtain ⟨v', hr', hv'⟩ := clen_sound (ty := o.type) hw (list1 hts) hv hx
    exact .value hw (exec_v hr') hv'
  · rename_i t u ts s x hts
    obtain ⟨s', x', rfl, hs, hx⟩ := two hargs
    rw [cond_eq_ite] at hr
    split at hr
    · rename_i hu
      rw [Option.map_eq_some_iff] at hr
      obtain ⟨⟨v, W1⟩, hv, rfl⟩ := hr
      obtain ⟨v', w', ρ', hext, hr', hv', hw'⟩ := cappend_sound (ty := o.type) hw (list1 hts) (list2 hts) hu hv hs hx
      exact ⟨_, _, ρ', List.mem_singleton.2 rfl, hext, .value (exec_v hr') hv' hw'⟩
    · cases hr
  · rename_i t ts d s hts
    obtain ⟨d', s', rfl, hd, hs⟩ := two hargs
    rw [Option.map_eq_some_iff] at hr
    obtain ⟨⟨v, W1⟩, hv, rfl⟩ := hr
    obtain ⟨v', w', hr', hv', hw'⟩ := ccopy_sound (ty := o.type) hw (list1 hts) hv hd hs
    exact ⟨_, _, ρ, List.mem_singleton.2 rfl, .refl _ (ccopy_sz hv), .value (exec_v hr') hv' hw'⟩
  · rename_i t ts x hts
    obtain ⟨x', rfl, hx⟩ := one hargs
    rw [Option.map_eq_some_iff] at hr
    obtain ⟨W1, hv, rfl⟩ := hr
    obtain ⟨w', hr', hw'⟩ := cclear_sound (ty := o.type) hz hw (list1 hts) hv hx
    exact ⟨_, _, ρ, List.mem_singleton.2 rfl, .refl _ (cclear_sz hv), .value (exec_v hr') (.tuple' (.nil _)) hw'⟩
  · rename_i t ts m k hts
    obtain ⟨m', k', rfl, hm, hk⟩ := two hargs
    rw [Option.map_eq_some_iff] at hr
    obtain ⟨W1, hv, rfl⟩ := hr
    obtain ⟨w', hr', hw'⟩ := cdelete_sound (ty := o.type) hw (list1 hts) hv hm hk
    exact ⟨_, _, ρ, List.mem_singleton.2 rfl, .refl _ (cdelete_sz hv), .value (exec_v hr') (.tuple' (.nil _)) hw'⟩
  · rename_i k a k2 b2
    obtain ⟨x', y', rfl, hx, hy⟩ := two hargs
    cases hx; cases hy; cases hr
    refine .value hw (exec_v (s := Builtin.max_ c.argTypes o.type #[.int k a, .int k2 b2]) (by simp [Builtin.max_, Builtin.max2]; rfl)) ?_
    simp only [cond_eq_ite, decide_eq_true_eq]
    exact .int _ _
  · rename_i k a k2 b2
    obtain ⟨x', y', rfl, hx, hy⟩ := two hargs
    cases hx; cases hy; cases hr
    refine .value hw (exec_v (s := Builtin.min_ c.argTypes o.type #[.int k a, .int k2 b2]) (by simp [Builtin.min_, Builtin.min2]; rfl)) ?_
    simp only [cond_eq_ite, decide_eq_true_eq]
    exact .int _ _
  · cases hr
    exact ⟨_, _, ρ, List.mem_singleton.2 rfl, .refl _, .recover rfl hw⟩
  · cases hr

theorem op_sound (hz : ZP P) (hok : okOp o = true) (he : ∀ x, x ∈ o.op.operands → okOperand x = true → VRel ρ (e x) (e' x)) (hw : WRel P w0 ρ W w) (h : cop P o e W = some outs) : OpSound P w0 ρ W ((execOp e' o).run P w) outs := by
  have al : ∀ l : List Operand, (∀ x, x ∈ l → x ∈ o.op.operands) → l.all okOperand = true → ∀ x, x ∈ l → VRel ρ (e x) (e' x) := fun l hm hl x hx => he x (hm x hx) (List.all_eq_true.1 hl x hx)
  have al2 : ∀ l : List (Nat × Operand), (∀ x, x ∈ l → x.2 ∈ o.op.operands) → (l.all fun p => okOperand p.2) = true → ∀ p, p ∈ l → VRel ρ (e p.2) (e' p.2) := fun l hm hl x hx => he x.2 (hm x hx) (List.all_eq_true.1 hl x hx)
  have op : ∀ m : Option Operand, (∀ x, m = some x → x ∈ o.op.operands) → m.all okOperand = true → ∀ x, m = some x → VRel ρ (e x) (e' x) := fun m hm2 hm x hx => he x (hm2 x hx) (by subst hx; simpa using hm)
  unfold okOp at hok
  split at hok <;> (try simp only [Bool.and_eq_true] at hok)
  case h_1 ho => exact op_move (.inl ho) h hw (he _ (by rw [ho]; simp [Op.operands]) hok)
  case h_2 ho => exact op_move (.inr ho) h hw (he _ (by rw [ho]; simp [Op.operands]) hok)
  case h_3 ho => exact op_nilCheck ho h hw (he _ (by rw [ho]; simp [Op.operands]) hok)
  case h_4 ho => exact op_unOp ho h hw (he _ (by rw [ho]; simp [Op.operands]) hok)
  case h_5 ho => exact op_convert ho h hw (he _ (by rw [ho]; simp [Op.operands]) hok)
  case h_6 ho => exact op_makeInterface ho h hw (he _ (by rw [ho]; simp [Op.operands]) hok)
  case h_7 ho => exact op_field ho h hw (he _ (by rw [ho]; simp [Op.operands]) hok)
  case h_8 ho => exact op_fieldAddr ho h hw (he _ (by rw [ho]; simp [Op.operands]) hok)
  case h_9 ho => exact op_range ho h hw (he _ (by rw [ho]; simp [Op.operands]) hok)
  case h_10 ho => exact op_next ho h hw (he _ (by rw [ho]; simp [Op.operands]) hok)
  case h_11 ho => exact op_entry ho h hw (he _ (by rw [ho]; simp [Op.operands]) hok)
  case h_12 ho => exact op_typeAssert hz ho h hw (he _ (by rw [ho]; simp [Op.operands]) hok)
  case h_13 ho => exact op_extract ho h hw (he _ (by rw [ho]; simp [Op.operands]) hok)
  case h_14 ho => exact op_panic ho h hw (he _ (by rw [ho]; simp [Op.operands]) hok)
  case h_15 ho => exact op_box ho h hw (he _ (by rw [ho]; simp [Op.operands]) hok)
  case h_16 ho => exact op_load ho h hw (he _ (by rw [ho]; simp [Op.operands]) hok)
  case h_17 ho => exact op_pick ho h hw (he _ (by rw [ho]; simp [Op.operands]) hok.1.1) (he _ (by rw [ho]; simp [Op.operands]) hok.1.2) (he _ (by rw [ho]; simp [Op.operands]) hok.2)
  case h_18 ho => exact op_alloc hz ho h hw
  case h_19 ho => exact op_makeMap ho h hw
  case h_20 ho => exact op_build hz ho h hw (al2 _ (fun x hx => by rw [ho]; simp [Op.operands]; exact ⟨x.1, by simpa using hx⟩) hok)
  case h_21 ho => exact op_buildSlice hz ho h hw (al2 _ (fun x hx => by rw [ho]; simp [Op.operands]; exact ⟨x.1, by simpa using hx⟩) hok)
  case h_22 ho => exact op_store ho h hw (he _ (by rw [ho]; simp [Op.operands]) hok.1) (he _ (by rw [ho]; simp [Op.operands]) hok.2)
  case h_23 ho => exact op_binOp ho h hw (he _ (by rw [ho]; simp [Op.operands]) hok.1) (he _ (by rw [ho]; simp [Op.operands]) hok.2)
  case h_24 ho => exact op_makeSlice hz ho h hw (he _ (by rw [ho]; simp [Op.operands]) hok.1) (he _ (by rw [ho]; simp [Op.operands]) hok.2)
  case h_25 ho => exact op_indexAddr ho h hw (he _ (by rw [ho]; simp [Op.operands]) hok.1) (he _ (by rw [ho]; simp [Op.operands]) hok.2)
  case h_26 ho => exact op_index ho h hw (he _ (by rw [ho]; simp [Op.operands]) hok.1) (he _ (by rw [ho]; simp [Op.operands]) hok.2)
  case h_27 ho => exact op_lookup hz ho h hw (he _ (by rw [ho]; simp [Op.operands]) hok.1) (he _ (by rw [ho]; simp [Op.operands]) hok.2)
  case h_28 ho => exact op_makeFunc ho h hw (al _ (fun x hx => by rw [ho]; simp [Op.operands]; first | exact .inl hx | exact .inr hx | exact .inl (by simpa using hx) | exact .inr (by simpa using hx)) hok.1) (al _ (fun x hx => by rw [ho]; simp [Op.operands]; first | exact .inl hx | exact .inr hx | exact .inl (by simpa using hx) | exact .inr (by simpa using hx)) hok.2)
  case h_29 ho => exact op_slice ho h hw (he _ (by rw [ho]; simp [Op.operands]) hok.1.1.1) (op _ (fun x hx => by rw [ho]; simp [Op.operands, hx]) hok.1.1.2) (op _ (fun x hx => by rw [ho]; simp [Op.operands, hx]) hok.1.2) (op _ (fun x hx => by rw [ho]; simp [Op.operands, hx]) hok.2)
  case h_30 ho => exact op_mapUpdate ho h hw (he _ (by rw [ho]; simp [Op.operands]) hok.1.1) (he _ (by rw [ho]; simp [Op.operands]) hok.1.2) (he _ (by rw [ho]; simp [Op.operands]) hok.2)
  case h_31 c ho =>
    obtain ⟨h1, h2⟩ := hok
    split at h2
    · rename_i f hf; exact op_callValue ho hf h hw (he _ (by rw [ho]; simp [Op.operands, Call.operands, hf]) h2) (al _ (fun x hx => by rw [ho]; simp [Op.operands, Call.operands, hf]; exact .inr (by simpa using hx)) h1)
    · rename_i b hf; exact op_builtin hz ho hf h hw (al _ (fun x hx => by rw [ho]; simp [Op.operands, Call.operands, hf]; simpa using hx) h1)
    · cases h2
  case h_32 c ho =>
    obtain ⟨h1, h2⟩ := hok
    split at h2
    · rename_i f hf; exact op_defer ho hf h hw (he _ (by rw [ho]; simp [Op.operands, Call.operands, hf]) h2) (al _ (fun x hx => by rw [ho]; simp [Op.operands, Call.operands, hf]; exact .inr (by simpa using hx)) h1)
    · cases h2
  case h_33 => cases hok
end
end Go.Ce
