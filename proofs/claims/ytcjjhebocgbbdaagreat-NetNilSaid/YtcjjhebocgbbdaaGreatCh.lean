/- The canonical machine for closed runs: operations on values, loads and stores, new variables. -/
import Derived.Test.YtcjjhebocgbbdaaGreatCg
set_option linter.unusedSectionVars false
set_option linter.unusedVariables false
set_option linter.unusedSimpArgs false
namespace Go.Ce
open Go.RowKit (Below)

section
variable {P : Program} {w0 : World} {ρ : Ren} {W : CW} {w : World} {o : Oper} {e e' : Operand → Value} {outs : List (CNext × CW)}

theorem vmatch {x : Option Value} (h : (match x with | some v => some [(CNext.value v, W)] | none => none) = some outs) : ∃ v, x = some v ∧ outs = [(.value v, W)] := by
  cases x with
  | none => cases h
  | some v => cases h; exact ⟨v, rfl, rfl⟩
theorem vwmatch {x : Option (Value × CW)} (h : (match x with | some (v, W) => some [(CNext.value v, W)] | none => none) = some outs) : ∃ v W1, x = some (v, W1) ∧ outs = [(.value v, W1)] := by
  cases x with
  | none => cases h
  | some v => obtain ⟨v, W1⟩ := v; cases h; exact ⟨v, W1, rfl, rfl⟩
theorem swmatch {x : Option CW} (h : (match x with | some W => some [(CNext.skip, W)] | none => none) = some outs) : ∃ W1, x = some W1 ∧ outs = [(.skip, W1)] := by
  cases x with
  | none => cases h
  | some W1 => cases h; exact ⟨W1, rfl, rfl⟩

theorem exec_v {s : Sem Value} {v : Value} {w w' : World} (hs : s.run P w = .ok v w') : (do let x ← s; pure (Next.value x) : Sem Next).run P w = .ok (.value v) w' := by simp [hs]
theorem exec_u {s : Sem Unit} {w w' : World} (hs : s.run P w = .ok () w') : (do s; pure Next.skip : Sem Next).run P w = .ok .skip w' := by simp [hs]

theorem op_move {x : Operand} (ho : o.op = .move x ∨ o.op = .assign x) (h : cop P o e W = some outs) (hw : WRel P w0 ρ W w) (he : VRel ρ (e x) (e' x)) :
    OpSound P w0 ρ W ((execOp e' o).run P w) outs := by
  rcases ho with ho | ho <;>
  · simp only [cop, ho] at h
    cases h
    exact .value hw (by simp only [execOp, ho, Sem.run_pure]) he

theorem op_pick {c a b : Operand} (ho : o.op = .pick c a b) (h : cop P o e W = some outs) (hw : WRel P w0 ρ W w) (hc : VRel ρ (e c) (e' c)) (ha : VRel ρ (e a) (e' a)) (hb : VRel ρ (e b) (e' b)) :
    OpSound P w0 ρ W ((execOp e' o).run P w) outs := by
  simp only [cop, ho] at h
  split at h
  · rename_i b0 hb0
    cases h
    rw [hb0] at hc
    generalize hcc : e' c = vc at hc
    cases hc
    have hr : (execOp e' o).run P w = .ok (.value (if b0 = true then e' a else e' b)) w := by
      simp [execOp, ho, hcc, asBool]
    refine .value hw hr ?_
    cases b0
    · simpa using hb
    · simpa using ha
  · cases h

theorem op_load {t : TypeId} {a : Operand} (ho : o.op = .load t a) (h : cop P o e W = some outs) (hw : WRel P w0 ρ W w) (ha : VRel ρ (e a) (e' a)) :
    OpSound P w0 ρ W ((execOp e' o).run P w) outs := by
  simp only [cop, ho] at h
  obtain ⟨v, hv, rfl⟩ := vmatch h
  split at hv
  · rename_i p hp
    rw [hp] at ha
    generalize hcc : e' a = va at ha
    cases ha with
    | ptr ha =>
      obtain ⟨v', hr, hv'⟩ := cload_sound hw ha hv
      refine .value hw ?_ hv'
      simp only [execOp, ho, hcc]
      exact exec_v (by simpa [Instr.loadAt, Instr.sureAddr] using hr)
  · cases hv

theorem cstore_sz {t : TypeId} {a : Addr} {v : Value} {W1 : CW} (h : cstore P t a v W = some W1) : W.sz ≤ W1.sz := by
  unfold cstore at h
  repeat' (first | (cases h; done) | (cases h; exact Nat.le_refl _) | (rw [cond_eq_ite] at h) | split at h)

theorem op_store {t : TypeId} {a x : Operand} (ho : o.op = .store t a x) (h : cop P o e W = some outs) (hw : WRel P w0 ρ W w) (ha : VRel ρ (e a) (e' a)) (hx : VRel ρ (e x) (e' x)) :
    OpSound P w0 ρ W ((execOp e' o).run P w) outs := by
  simp only [cop, ho] at h
  obtain ⟨W1, hv, rfl⟩ := swmatch h
  split at hv
  · rename_i p hp
    rw [hp] at ha
    generalize hcc : e' a = va at ha
    cases ha with
    | ptr ha =>
      obtain ⟨w', hr, hw'⟩ := cstore_sound hw ha hx hv
      refine ⟨_, _, ρ, List.mem_singleton.2 rfl, .refl _ (cstore_sz hv), .skip (w := w') ?_ hw'⟩
      simp only [execOp, ho, hcc]
      exact exec_u (by simpa [Instr.storeAt, Instr.sureAddr] using hr)
  · cases hv

theorem op_nilCheck {x : Operand} (ho : o.op = .nilCheck x) (h : cop P o e W = some outs) (hw : WRel P w0 ρ W w) (hx : VRel ρ (e x) (e' x)) :
    OpSound P w0 ρ W ((execOp e' o).run P w) outs := by
  simp only [cop, ho] at h
  obtain ⟨v, hv, rfl⟩ := vmatch h
  generalize hc : e x = vx at *
  generalize hcc : e' x = vx' at *
  split at hv <;> cases hv <;> cases hx
  · rename_i h1; exact .value hw (by simp only [execOp, ho, hcc, Sem.run_pure]) (.ptr h1)
  · rename_i h1; exact .value hw (by simp only [execOp, ho, hcc, Sem.run_pure]) (.iface _ h1)
  · rename_i h1 h2 h3 h4 h5
    cases h1
    exact .value hw (by simp only [execOp, ho, hcc, Sem.run_pure]) (.func (.func _) h2 h3 h4 h5)
  · rename_i h1 h2 h3 h4 h5
    cases h1 with
    | yield hb => exact .value hw (by simp only [execOp, ho, hcc, Sem.run_pure]) (.func (.yield hb) h2 h3 h4 h5)

/-- A new block whose cells are given, on both sides. -/
theorem newCells (hw : WRel P w0 ρ W w) {c : Tr Value} {z : Array Value} {n : Nat} {t : TypeId} {sz : Nat} {c' : Array Value} (hs : siz P t = some sz) (hn : c'.size = n)
    (hc : ∀ k, k < n → VRel ρ (cellAt c z k) (c'.getD k undef)) :
    ∃ ρ', Grow W ρ (W.new (.cells c n z t)) ρ' ∧ ρ' W.sz = some ⟨w.heap.size, 0, sz, n, n⟩ ∧ WRel P w0 ρ' (W.new (.cells c n z t)) { w with heap := w.heap.push (.cells c' t) } ∧ ARel ρ' ⟨W.sz, 0, none⟩ ⟨w.heap.size, 0, none⟩ := by
  have hext : Ext ρ (fun i => if i = W.sz then some ⟨w.heap.size, 0, sz, n, n⟩ else ρ i) := fun i y hy => by
    have := hw.dom i y hy
    show (if i = W.sz then _ else ρ i) = some y
    rw [if_neg (by omega)]; exact hy
  have := hw.new (o := .cells c n z t) (o' := .cells c' t) ⟨w.heap.size, 0, sz, n, n⟩ rfl (by
    exact .cells hs hn (by simp) (fun k hk => (hc k hk).mono hext) ⟨NF.zero _, fun _ => ⟨rfl, rfl⟩⟩)
  exact ⟨_, this.1, by simp, this.2, ⟨rfl, ⟨w.heap.size, 0, sz, n, n⟩, by simp, by simp⟩⟩

theorem cellAt_list (vs : List Value) (z : Array Value) (k : Nat) (h : k < vs.length) : cellAt (Tr.nil.putFrom 0 vs) z k = vs.getD k undef := by
  rw [cellAt_put]; simp [h]

theorem op_box {t : TypeId} {x : Operand} (ho : o.op = .box t x) (h : cop P o e W = some outs) (hw : WRel P w0 ρ W w) (hx : VRel ρ (e x) (e' x)) :
    OpSound P w0 ρ W ((execOp e' o).run P w) outs := by
  simp only [cop, ho, cnewVar] at h
  split at h
  · rename_i sz hs
    cases h
    have hl := hx.cells
    obtain ⟨ρ', hext, _, hw', ha⟩ := newCells hw (c := Tr.nil.putFrom 0 (e x).cells.toList) (z := #[]) (n := (e x).cells.size) (c' := (e' x).cells) hs (by simpa using hl.1.symm) (fun k hk => by
      rw [cellAt_list _ _ _ (by simpa using hk)]
      have := hl.2 k (by simpa using hk)
      simpa [Array.getD_eq_getD_getElem?, List.getD_eq_getElem?_getD] using this)
    refine ⟨_, _, ρ', List.mem_singleton.2 rfl, hext, .value (w := { w with heap := w.heap.push (.cells (e' x).cells t) }) ?_ (.ptr ha) hw'⟩
    simp only [execOp, ho]
    exact exec_v (by simp [Instr.box, newVar, newRow])
  · cases h

theorem zer_siz_none : True := trivial

theorem op_alloc (hz : ZP P) {t : TypeId} (ho : o.op = .alloc t) (h : cop P o e W = some outs) (hw : WRel P w0 ρ W w) :
    OpSound P w0 ρ W ((execOp e' o).run P w) outs := by
  simp only [cop, ho] at h
  split at h
  · rename_i z hzz
    split at h
    · rename_i sz hs
      cases h
      obtain ⟨ρ', hext, _, hw', ha⟩ := newCells hw (c := .nil) (z := z.cells) (n := z.cells.size) (c' := z.cells) hs rfl (fun k hk => by
        have hc := (hz.rel hzz ρ).cells.2 k (by simpa using hk)
        have : cellAt .nil z.cells k = z.cells.getD k undef := by simp [cellAt, Tr.get_nil, Nat.mod_eq_of_lt hk]
        rw [this]
        simpa [Array.getD_eq_getD_getElem?, List.getD_eq_getElem?_getD] using hc)
      refine ⟨_, _, ρ', List.mem_singleton.2 rfl, hext, .value (w := { w with heap := w.heap.push (.cells z.cells t) }) ?_ (.ptr ha) hw'⟩
      simp only [execOp, ho]
      exact exec_v (by simp [Instr.alloc, run_zeroValue' hzz, newVar, newRow])
    · cases h
  · cases h

theorem op_unOp {u : UnOp} {t : TypeId} {x : Operand} (ho : o.op = .unOp u t x) (h : cop P o e W = some outs) (hw : WRel P w0 ρ W w) (hx : VRel ρ (e x) (e' x)) :
    OpSound P w0 ρ W ((execOp e' o).run P w) outs := by
  cases u <;> simp only [cop, ho] at h <;> first | (cases h; done) | skip
  all_goals
    obtain ⟨v, hv, rfl⟩ := vmatch h
    split at hv
    · rename_i hc
      cases hv
      rw [hc] at hx
      generalize hcc : e' x = vx' at hx
      cases hx
      refine .value hw ?_ (by constructor)
      simp only [execOp, ho, hcc]
      exact exec_v (by simp [Op.unary, Op.intArith])
    · cases hv

theorem op_makeInterface {t : TypeId} {x : Operand} (ho : o.op = .makeInterface t x) (h : cop P o e W = some outs) (hw : WRel P w0 ρ W w) (hx : VRel ρ (e x) (e' x)) :
    OpSound P w0 ρ W ((execOp e' o).run P w) outs := by
  simp only [cop, ho] at h
  obtain ⟨v, hv, rfl⟩ := vmatch h
  split at hv
  · cases hv
  · cases hv
  · rename_i hn1 hn2
    cases hv
    refine .value hw ?_ (.iface _ hx)
    simp only [execOp, ho]
    refine exec_v ?_
    cases hu : P.underlying t with
    | none => exact (hn2 hu).elim
    | some d =>
      simp only [Instr.makeInterface, Sem.run_bind, run_underlying' hu, Result.andThen_ok]
      cases d <;> first | rfl | exact (hn1 _ hu).elim

theorem op_extract {x : Operand} {i : Nat} (ho : o.op = .extract x i) (h : cop P o e W = some outs) (hw : WRel P w0 ρ W w) (hx : VRel ρ (e x) (e' x)) :
    OpSound P w0 ρ W ((execOp e' o).run P w) outs := by
  simp only [cop, ho] at h
  obtain ⟨v, hv, rfl⟩ := vmatch h
  split at hv
  · rename_i vs hc
    rw [hc] at hx
    generalize hcc : e' x = vx' at hx
    obtain ⟨vs', rfl, hl⟩ := hx.tuple_inv
    obtain ⟨y, hy, hr⟩ := hl.get (x := v) (i := i) (by simpa using hv)
    have hy : vs'[i]? = some y := by simpa using hy
    refine .value hw ?_ hr
    simp only [execOp, ho, hcc]
    exact exec_v (by simp [Instr.extract, hy])
  · cases hv

end
end Go.Ce
