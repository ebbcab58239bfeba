/- The canonical machine for closed runs: parts of aggregates and their addresses, functions and maps made, assertions, cuts, panics, calls. -/
import Derived.Test.YtcjjhebocgbbdaaGreatCj
set_option linter.unusedSectionVars false
set_option linter.unusedVariables false
set_option linter.unusedSimpArgs false
namespace Go.Ce
open Go.RowKit (Below)

section
variable {P : Program} {w0 : World} {ρ : Ren} {W : CW} {w : World} {o : Oper} {e e' : Operand → Value} {outs : List (CNext × CW)}

theorem op_makeFunc {f : FuncId} {first cap : Array Operand} (ho : o.op = .makeFunc (.func f) first cap) (h : cop P o e W = some outs) (hw : WRel P w0 ρ W w)
    (hf : ∀ x, x ∈ first.toList → VRel ρ (e x) (e' x)) (hc : ∀ x, x ∈ cap.toList → VRel ρ (e x) (e' x)) : OpSound P w0 ρ W ((execOp e' o).run P w) outs := by
  simp only [cop, ho] at h
  cases h
  have h1 := LRel.arr.1 (by simpa using LRel.map (ρ := ρ) first.toList e e' hf : LRel ρ (first.map e).toList (first.map e').toList)
  have h2 := LRel.arr.1 (by simpa using LRel.map (ρ := ρ) cap.toList e e' hc : LRel ρ (cap.map e).toList (cap.map e').toList)
  refine .value hw ?_ (.func (.func f) h1.1 h1.2 h2.1 h2.2)
  simp only [execOp, ho]
  exact exec_v (by simp [Instr.makeFunc])

theorem op_makeMap {t : TypeId} (ho : o.op = .makeMap t none) (h : cop P o e W = some outs) (hw : WRel P w0 ρ W w) : OpSound P w0 ρ W ((execOp e' o).run P w) outs := by
  simp only [cop, ho] at h
  cases h
  obtain ⟨hext, hw'⟩ := hw.new (o := .map [] 0) (o' := .map #[] 0) ⟨w.heap.size, 0, 0, 0, 0⟩ rfl (.map rfl trivial)
  refine ⟨_, _, _, List.mem_singleton.2 rfl, hext, .value (v' := .map (some w.heap.size)) (w := { w with heap := w.heap.push (.map #[] 0) }) ?_ (.map ⟨⟨w.heap.size, 0, 0, 0, 0⟩, by simp, rfl⟩) hw'⟩
  simp only [execOp, ho]
  exact exec_v (by simp [Instr.makeMap])

theorem op_fieldAddr {t : TypeId} {x : Operand} {i : Nat} (ho : o.op = .fieldAddr t x i) (h : cop P o e W = some outs) (hw : WRel P w0 ρ W w) (hx : VRel ρ (e x) (e' x)) :
    OpSound P w0 ρ W ((execOp e' o).run P w) outs := by
  simp only [cop, ho] at h
  obtain ⟨v, hv, rfl⟩ := vmatch h
  split at hv
  · rename_i fs a ht hc
    rw [hc] at hx
    generalize hcc : e' x = vx' at hx
    cases hx with
    | @ptr _ a' ha =>
      split at hv
      · rename_i fd hfd
        split at hv
        · rename_i m hm
          rw [cond_eq_ite] at hv
          split at hv
          · cases hv
          · rename_i hm0
            have hm0 : m ≠ 0 := by simpa using hm0
            cases hv
            refine .value hw (v' := .pointer (some (a'.add fd.offset))) ?_ (.ptr (add_rel ha _))
            simp only [execOp, ho, hcc]
            refine exec_v ?_
            simp only [Instr.fieldAt, Sem.run_bind, run_underlying' ht, Result.andThen_ok, hfd, Instr.sureAddr, Sem.run_pure, fieldPlace, run_sizeOf' hm, if_neg hm0]
        · cases hv
      · cases hv
  · cases hv

theorem LRel.extract {c c' : Array Value} (h : LRel ρ c.toList c'.toList) (i j : Nat) : LRel ρ (c.extract i j).toList (c'.extract i j).toList := by
  rw [LRel.arr] at h ⊢
  refine ⟨by simp [h.1], fun k hk => ?_⟩
  have hk : k < min j c.size - i := by simpa using hk
  have h2 := h.2 (i + k) (by omega)
  have l1 : i + k < c.size := by omega
  have l2 : i + k < c'.size := by omega
  simp only [Array.getD_eq_getD_getElem?] at h2 ⊢
  have g1 : (c.extract i j)[k]? = c[i + k]? := by rw [Array.getElem?_extract, if_pos (by omega)]
  have g2 : (c'.extract i j)[k]? = c'[i + k]? := by rw [Array.getElem?_extract, if_pos (by omega)]
  rw [g1, g2]; exact h2

/-- A part of an aggregate, on both sides. -/
theorem part_rel {t : TypeId} {cs cs' : Array Value} {off : Nat} {v : Value} (hl : LRel ρ cs.toList cs'.toList)
    (h : (agg? P t = some true ∧ ∃ m, siz P t = some m ∧ v = .agg (cs.extract off (off + m))) ∨ (agg? P t = some false ∧ cs[off]? = some v)) :
    ∃ v', (part t cs' off).run P w = .ok v' w ∧ VRel ρ v v' := by
  rcases h with ⟨ha, m, hm, rfl⟩ | ⟨ha, hv⟩
  · refine ⟨.agg (cs'.extract off (off + m)), ?_, .agg' (hl.extract _ _)⟩
    simp only [part, Sem.run_bind, run_isAgg' ha, Result.andThen_ok, if_true, run_sizeOf' hm, Sem.run_pure]
  · obtain ⟨y, hy, hr⟩ := hl.get (x := v) (i := off) (by simpa using hv)
    have hy : cs'[off]? = some y := by simpa using hy
    refine ⟨y, ?_, hr⟩
    simp only [part, Sem.run_bind, run_isAgg' ha, Result.andThen_ok, Bool.false_eq_true, if_false, hy, Sem.run_pure]

theorem op_field {t : TypeId} {x : Operand} {i : Nat} (ho : o.op = .field t x i) (h : cop P o e W = some outs) (hw : WRel P w0 ρ W w) (hx : VRel ρ (e x) (e' x)) :
    OpSound P w0 ρ W ((execOp e' o).run P w) outs := by
  simp only [cop, ho] at h
  obtain ⟨v, hv, rfl⟩ := vmatch h
  split at hv
  · rename_i fs cs ht hc
    rw [hc] at hx
    generalize hcc : e' x = vx' at hx
    obtain ⟨cs', rfl, hl⟩ := hx.agg_inv
    split at hv
    · rename_i fd hfd
      obtain ⟨v', hr, hv'⟩ := part_rel (P := P) (w := w) (t := fd.type) (off := fd.offset) (v := v) hl (by
        split at hv
        · rename_i m ha hm
          cases hv
          exact .inl ⟨ha, m, hm, rfl⟩
        · rename_i ha
          exact .inr ⟨ha, hv⟩
        · cases hv)
      refine .value hw ?_ hv'
      simp only [execOp, ho, hcc]
      refine exec_v ?_
      simp only [Instr.field, Sem.run_bind, run_underlying' ht, Result.andThen_ok, hfd, asAgg, Sem.run_pure, hr]
    · cases hv
  · cases hv

theorem op_indexAddr {t : TypeId} {x ix : Operand} (ho : o.op = .indexAddr t x ix) (h : cop P o e W = some outs) (hw : WRel P w0 ρ W w) (hx : VRel ρ (e x) (e' x)) (hi : VRel ρ (e ix) (e' ix)) :
    OpSound P w0 ρ W ((execOp e' o).run P w) outs := by
  simp only [cop, ho] at h
  obtain ⟨v, hv, rfl⟩ := vmatch h
  split at hv
  · rename_i k i hci
    rw [hci] at hi
    generalize hcc : e' ix = vi' at hi
    cases hi
    split at hv
    · rename_i len elem a ht hc
      rw [hc] at hx
      generalize hcx : e' x = vx' at hx
      cases hx with
      | @ptr _ a' ha =>
        obtain ⟨s, hs, hv⟩ := optB_some hv
        rw [cond_eq_ite] at hv
        split at hv
        · rename_i hcond
          simp only [Bool.and_eq_true, decide_eq_true_eq] at hcond
          cases hv
          refine .value hw (v' := .pointer (some (a'.add (i.toNat * s)))) ?_ (.ptr (add_rel ha _))
          simp only [execOp, ho, hcc, hcx]
          refine exec_v ?_
          simp only [Instr.indexAt, Sem.run_bind, asIntOf, Sem.run_pure, Result.andThen_ok, run_underlying' ht, Instr.sureAddr, if_pos hcond, run_sizeOf' hs]
        · cases hv
    · rename_i elem a len cp ht hc
      rw [hc] at hx
      generalize hcx : e' x = vx' at hx
      have : ∃ a' c', vx' = .slice (some a') len c' ∧ (len = 0 ∨ ARel ρ a a') := by
        cases hx with
        | slice _ ha _ => exact ⟨_, _, rfl, .inr ha⟩
        | slice0 _ _ _ _ _ => exact ⟨_, _, rfl, .inl rfl⟩
        | slice00 _ => exact ⟨_, _, rfl, .inl rfl⟩
      obtain ⟨a', c', rfl, hor⟩ := this
      obtain ⟨s, hs, hv⟩ := optB_some hv
      rw [cond_eq_ite] at hv
      split at hv
      · rename_i hcond
        simp only [Bool.and_eq_true, decide_eq_true_eq] at hcond
        cases hv
        have ha : ARel ρ a a' := hor.resolve_left (by omega)
        refine .value hw (v' := .pointer (some (a'.add (i.toNat * s)))) ?_ (.ptr (add_rel ha _))
        simp only [execOp, ho, hcc, hcx]
        refine exec_v ?_
        simp only [Instr.indexAt, Sem.run_bind, asIntOf, Sem.run_pure, Result.andThen_ok, run_underlying' ht, if_pos hcond, run_sizeOf' hs]
      · cases hv
    · cases hv
  · cases hv

theorem op_index {t : TypeId} {x ix : Operand} (ho : o.op = .index t x ix) (h : cop P o e W = some outs) (hw : WRel P w0 ρ W w) (hx : VRel ρ (e x) (e' x)) (hi : VRel ρ (e ix) (e' ix)) :
    OpSound P w0 ρ W ((execOp e' o).run P w) outs := by
  simp only [cop, ho] at h
  obtain ⟨v, hv, rfl⟩ := vmatch h
  split at hv
  · rename_i k i hci
    rw [hci] at hi
    generalize hcc : e' ix = vi' at hi
    cases hi
    split at hv
    · rename_i len elem cs ht hc
      rw [hc] at hx
      generalize hcx : e' x = vx' at hx
      obtain ⟨cs', rfl, hl⟩ := hx.agg_inv
      rw [cond_eq_ite] at hv
      split at hv
      · rename_i hcond
        simp only [Bool.and_eq_true, decide_eq_true_eq] at hcond
        have : ∃ m, siz P elem = some m ∧ ((agg? P elem = some true ∧ ∃ n, siz P elem = some n ∧ v = .agg (cs.extract (i.toNat * m) (i.toNat * m + n))) ∨ (agg? P elem = some false ∧ cs[i.toNat * m]? = some v)) := by
          split at hv
          · rename_i m ha hm
            cases hv
            exact ⟨m, hm, .inl ⟨ha, m, hm, rfl⟩⟩
          · rename_i m ha hm
            exact ⟨m, hm, .inr ⟨ha, hv⟩⟩
          · cases hv
        obtain ⟨m, hm, hp⟩ := this
        obtain ⟨v', hr, hv'⟩ := part_rel (P := P) (w := w) hl hp
        refine .value hw ?_ hv'
        simp only [execOp, ho, hcc, hcx]
        refine exec_v ?_
        simp only [Instr.index, Sem.run_bind, asIntOf, Sem.run_pure, Result.andThen_ok, run_underlying' ht, if_pos hcond, run_sizeOf' hm, hr]
      · cases hv
    · rename_i s ht hc
      rw [hc] at hx
      generalize hcx : e' x = vx' at hx
      cases hx
      rw [cond_eq_ite] at hv
      split at hv
      · rename_i hcond
        have hcond : 0 ≤ i := by simpa using hcond
        cases hs : s[i.toNat]? with
        | none => rw [hs] at hv; cases hv
        | some b =>
          rw [hs] at hv
          cases hv
          refine .value hw ?_ (.int _ _)
          simp only [execOp, ho, hcc, hcx]
          refine exec_v ?_
          simp only [Instr.index, Sem.run_bind, asIntOf, Sem.run_pure, Result.andThen_ok, run_underlying' ht, if_pos hcond, hs]
      · cases hv
    · cases hv
  · cases hv

theorem op_slice {t : TypeId} {x : Operand} {lo hi mx : Option Operand} (ho : o.op = .slice t x lo hi mx) (h : cop P o e W = some outs) (hw : WRel P w0 ρ W w) (hx : VRel ρ (e x) (e' x))
    (hl : ∀ y, lo = some y → VRel ρ (e y) (e' y)) (hh : ∀ y, hi = some y → VRel ρ (e y) (e' y)) (hm : ∀ y, mx = some y → VRel ρ (e y) (e' y)) : OpSound P w0 ρ W ((execOp e' o).run P w) outs := by
  simp only [cop, ho] at h
  obtain ⟨v, hv, rfl⟩ := vmatch h
  have rl := ORelV.map (ρ := ρ) (f := e) (g := e') lo hl
  have rh := ORelV.map (ρ := ρ) (f := e) (g := e') hi hh
  have rm := ORelV.map (ρ := ρ) (f := e) (g := e') mx hm
  split at hv
  · rename_i s ht hc
    rw [hc] at hx
    generalize hcx : e' x = vx' at hx
    cases hx
    obtain ⟨h', hh', hv⟩ := optB_some hv
    obtain ⟨l', hl', hv⟩ := optB_some hv
    rw [cond_eq_ite] at hv
    split at hv
    · cases hv
    · rename_i hmx
      cases hv
      have hmx : mx = none := by cases mx <;> simp_all
      subst hmx
      have hb := bounds_sound (P := P) (ρ := ρ) (mx := none) (mx' := none) (cap := s.size) (cap' := s.size) (m := s.size) false rfl hh' hl' rl rh trivial (Nat.le_refl _) (by simp)
      obtain ⟨m', hr, _, _⟩ := hb
      refine .value hw ?_ (.string _)
      simp only [execOp, ho, hcx]
      refine exec_v ?_
      simp only [Instr.sliceAt, Sem.run_bind, run_underlying' ht, Result.andThen_ok, Instr.slice, Option.map_none, Option.isSome_none, Bool.false_eq_true, if_false, Sem.run_pure, hr]
  · obtain ⟨v', hr, hv'⟩ := cslice_sound hw hv hx rl rh rm
    refine .value hw ?_ hv'
    simp only [execOp, ho]
    exact exec_v hr

theorem op_typeAssert (hz : ZP P) {x : Operand} {xt t : TypeId} {ok : Bool} (ho : o.op = .typeAssert x xt t ok) (h : cop P o e W = some outs) (hw : WRel P w0 ρ W w) (hx : VRel ρ (e x) (e' x)) :
    OpSound P w0 ρ W ((execOp e' o).run P w) outs := by
  simp only [cop, ho] at h
  obtain ⟨v, hv, rfl⟩ := vmatch h
  split at hv
  · cases hv
  · rename_i d u y h1 h2 hce
    have hc : P.underlying t = some d := by first | exact h1 | exact h2
    have ht : ∀ m, d = .interface m → False := by first | exact h1 | exact h2
    rw [hce] at hx
    generalize hcx : e' x = vx' at hx
    cases hx with
    | @iface _ _ y' hy =>
      rw [cond_eq_ite] at hv
      have hne : ∀ m, d ≠ .interface m := fun m hm => ht m hm
      have run : ∀ {v' : Value}, ((t = u ∧ v' = (if ok = true then .tuple #[y', .bool true] else y')) ∨ (t ≠ u ∧ ok = true ∧ ∃ z, zer P t = some z ∧ v' = .tuple #[z, .bool false])) →
          (Instr.typeAssert (.iface u y') xt t ok).run P w = .ok v' w := by
        intro v' hr
        simp only [Instr.typeAssert, Sem.run_bind, run_underlying' hc, Result.andThen_ok]
        rcases hr with ⟨htu, rfl⟩ | ⟨htu, rfl, z, hzz, rfl⟩
        · cases d <;> first | (exact (hne _ rfl).elim) | (simp [htu])
        · cases d <;> first | (exact (hne _ rfl).elim) | (simp [Ne.symm htu, run_zeroValue' hzz])
      split at hv
      · rename_i htu
        have htu : t = u := by simpa using htu
        cases hv
        refine .value hw (v' := if ok = true then .tuple #[y', .bool true] else y') ?_ ?_
        · simp only [execOp, ho, hcx]
          exact exec_v (run (.inl ⟨htu, rfl⟩))
        · cases ok
          · simpa using hy
          · simp only [cond_true, if_true]
            exact .tuple' (.cons hy (.cons (.bool _) (.nil _)))
      · rename_i htu
        have htu : ¬ t = u := by simpa using htu
        cases ok
        · cases hv
        · simp only [cond_true] at hv
          rw [Option.map_eq_some_iff] at hv
          obtain ⟨z, hzz, rfl⟩ := hv
          refine .value hw (v' := .tuple #[z, .bool false]) ?_ (.tuple' (.cons (hz.rel hzz ρ) (.cons (.bool _) (.nil _))))
          simp only [execOp, ho, hcx]
          exact exec_v (run (.inr ⟨htu, rfl, z, hzz, rfl⟩))
  · cases hv

theorem op_panic {x : Operand} (ho : o.op = .panic x) (h : cop P o e W = some outs) (hw : WRel P w0 ρ W w) (hx : VRel ρ (e x) (e' x)) : OpSound P w0 ρ W ((execOp e' o).run P w) outs := by
  simp only [cop, ho] at h
  split at h
  · rename_i t y hc
    cases h
    rw [hc] at hx
    generalize hcx : e' x = vx' at hx
    cases hx with
    | @iface _ _ y' hy =>
      refine ⟨_, _, ρ, List.mem_singleton.2 rfl, .refl _, .panic (v' := .iface t y') (w := w) ?_ (.iface _ hy) hw⟩
      simp [execOp, ho, hcx, Instr.panic]
  · cases h

theorem op_defer {c : Call} {f : Operand} (ho : o.op = .defer c) (hf : c.callee = .value f) (h : cop P o e W = some outs) (hw : WRel P w0 ρ W w) (hx : VRel ρ (e f) (e' f))
    (ha : ∀ x, x ∈ c.args.toList → VRel ρ (e x) (e' x)) : OpSound P w0 ρ W ((execOp e' o).run P w) outs := by
  simp only [cop, ho, hf] at h
  have hargs : LRel ρ (c.args.map e).toList (c.args.map e').toList := by simpa using LRel.map (ρ := ρ) c.args.toList e e' ha
  split at h
  · rename_i fn first cap hc
    cases h
    rw [hc] at hx
    generalize hcx : e' f = vx' at hx
    cases hx with
    | @func _ f' _ x' _ y' hfn h1 h2 h3 h4 =>
      cases hfn
      refine ⟨_, _, ρ, List.mem_singleton.2 rfl, .refl _, .defer (w := w) (d' := { target := .fn (.func fn) y', args := x' ++ c.args.map e' }) ?_ (.fn ?_ ?_) hw⟩
      · simp only [execOp, ho, resolve, hf, hcx, Deferred.ofValue, Sem.run_bind, Sem.run_pure, Result.andThen_ok]
      · exact LRel.arr.2 ⟨h3, h4⟩
      · have e1 := LRel.arr.2 ⟨h1, h2⟩
        simpa using e1.append hargs
  · cases h
end
end Go.Ce
