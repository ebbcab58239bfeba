/- The canonical machine for closed runs: maps. -/
import Derived.Test.YtcjjhebocgbbdaaGreatCk
import Derived.MapKept
set_option linter.unusedSectionVars false
set_option linter.unusedVariables false
set_option linter.unusedSimpArgs false
namespace Go.Ce
open Go.RowKit (Below)

section
variable {P : Program} {w0 : World} {ρ : Ren} {W : CW} {w : World} {o : Oper} {e e' : Operand → Value} {outs : List (CNext × CW)}

theorem run_getObj' {r : Nat} {u : Obj} (h : w.heap[r]? = some u) (hc : ∀ c e z, u ≠ .cells c e z) : (getObj r).run P w = .ok u w := by
  cases u <;> first | exact (hc _ _ _ rfl).elim | simp [getObj, Sem.run, h]
theorem run_setObj' {r : Nat} {u : Obj} (h : w.heap[r]? = some u) (hc : ∀ c e z, u ≠ .cells c e z) (v : Obj) : (setObj r v).run P w = .ok () { w with heap := w.heap.setIfInBounds r v } := by
  cases u <;> first | exact (hc _ _ _ rfl).elim | simp [setObj, Sem.run, h]

theorem sameNow_rel {d : TypeDesc} {k k' v v' : Value} {b : Bool} (h : Instr.sameNow d k v = some b) (hk : VRel ρ k k') (hv : VRel ρ v v') : Instr.sameNow d k' v' = some b := by
  unfold Instr.sameNow at h ⊢
  split at h <;> first | (cases h; done) | skip
  all_goals
    cases hk
    cases hv
    exact h

theorem findNow_rel {d : TypeDesc} {k k' : Value} (hk : VRel ρ k k') : ∀ {es es' : List MapEntry}, ELRel ρ es es' → ∀ {i : Nat} {r : Option (Nat × Value)}, Instr.findNow d k es i = some r →
    ∃ r', Instr.findNow d k' es' i = some r' ∧ ((r = none ∧ r' = none) ∨ ∃ j v v' en, r = some (j, v) ∧ r' = some (j, v') ∧ VRel ρ v v' ∧ i ≤ j ∧ es'[j - i]? = some en ∧ Instr.sameNow d k' en.key = some true) := by
  intro es
  induction es with
  | nil =>
    intro es' hes i r h
    cases es' with
    | nil => simp only [Instr.findNow, Option.some.injEq] at h; subst h; exact ⟨none, rfl, .inl ⟨rfl, rfl⟩⟩
    | cons _ _ => exact hes.elim
  | cons en es ih =>
    intro es' hes i r h
    cases es' with
    | nil => exact hes.elim
    | cons en' es' =>
      obtain ⟨h1, h2⟩ := hes
      cases h1 with
      | @mk k1 v1 k1' v1' born hkk hvv =>
        rw [Instr.findNow] at h ⊢
        simp only at h ⊢
        cases hs : Instr.sameNow d k k1 with
        | none => rw [hs] at h; cases h
        | some b =>
          have hs' := sameNow_rel hs hk hkk
          rw [hs] at h
          rw [hs']
          cases b with
          | true =>
            cases h
            exact ⟨_, rfl, .inr ⟨i, v1, v1', ⟨k1', v1', born⟩, rfl, rfl, hvv, Nat.le_refl _, by simp, hs'⟩⟩
          | false =>
            obtain ⟨r', hr', hcase⟩ := ih h2 h
            refine ⟨r', hr', hcase.imp id ?_⟩
            rintro ⟨j, v, v', en2, e1, e2, e3, e4, e5, e6⟩
            refine ⟨j, v, v', en2, e1, e2, e3, by omega, ?_, e6⟩
            have : j - i = (j - (i + 1)) + 1 := by omega
            rw [this]; simpa using e5

theorem sameBits_of {d : TypeDesc} {k v : Value} (h : Instr.sameNow d k v = some true) : Instr.sameBits 10000 v k = true := by
  unfold Instr.sameNow at h
  split at h <;> first | (cases h; done) | skip
  · rename_i k1 a k2 b
    split at h
    · rename_i hk
      subst hk
      have : a = b := by simpa using h
      subst this
      simp [Instr.sameBits]
    · cases h
  · rename_i a b
    have h : (a == b) = true := by simpa using h
    have : a = b := by
      cases a; cases b
      have h : (_ == _) = true := h
      exact congrArg ByteArray.mk (Array.eq_of_isEqv _ _ (show Array.isEqv _ _ (fun a b => a == b) = true from h))
    subst this
    exact h
  · rename_i a b
    have : a = b := by simpa using h
    subst this
    simp [Instr.sameBits]

theorem checkKey_run {b : Bool} {t : TypeId} {d : TypeDesc} {k : Value} (hu : P.underlying t = some d) (hs : simpleKey d = true) (w : World) : (Instr.checkKey b 10000 t k).run P w = .ok () w := by
  rw [Instr.checkKey]
  simp only [Sem.run_bind, run_underlying' hu, Result.andThen_ok]
  cases d <;> first | (cases hs; done) | rfl

theorem keyEq_eq (d : TypeDesc) (k v : Value) : keyEq d k v = Instr.sameNow d k v := by
  unfold keyEq
  split
  · rename_i a b
    simp only [Instr.sameNow, bEq_sound, beq_toListBytes]
  · rfl
theorem cfindNow_eq (d : TypeDesc) (k : Value) : ∀ (es : List MapEntry) (i : Nat), cfindNow d k es i = Instr.findNow d k es i
  | [], _ => rfl
  | e :: es, i => by simp only [cfindNow, Instr.findNow, keyEq_eq, cfindNow_eq d k es]; rfl

theorem simpleCell_rel {x y x' y' : Value} (h : simpleCell x y = true) (hx : VRel ρ x x') (hy : VRel ρ y y') : x' = y' ∧ ∀ n, Instr.sameBits n y' x' = true := by
  unfold simpleCell at h
  split at h
  · simp only [Bool.and_eq_true, decide_eq_true_eq] at h
    obtain ⟨rfl, rfl⟩ := h
    cases hx; cases hy
    exact ⟨rfl, fun n => by cases n <;> simp [Instr.sameBits]⟩
  · have := bEq_true h
    subst this
    cases hx; cases hy
    exact ⟨rfl, fun n => by cases n <;> simp [Instr.sameBits, beq_toListBytes]⟩
  · have := eq_of_beq h
    subst this
    cases hx; cases hy
    exact ⟨rfl, fun n => by cases n <;> simp [Instr.sameBits]⟩
  · cases h

theorem allCells_rel : ∀ {xs ys xs' ys' : List Value}, allCells xs ys = true → LRel ρ xs xs' → LRel ρ ys ys' → xs' = ys' ∧ ∀ n, ((ys'.zip xs').all fun (x, y) => Instr.sameBits n x y) = true
  | [], [], xs', ys', _, hx, hy => by
    have h1 : xs' = [] := List.length_eq_zero_iff.1 hx.1.symm
    have h2 : ys' = [] := List.length_eq_zero_iff.1 hy.1.symm
    subst h1 h2
    exact ⟨rfl, fun _ => rfl⟩
  | x :: xs, y :: ys, [], _, _, hx, _ => by have := hx.1; simp at this
  | x :: xs, y :: ys, _ :: _, [], _, _, hy => by have := hy.1; simp at this
  | x :: xs, y :: ys, x' :: xs', y' :: ys', h, hx, hy => by
    simp only [allCells, Bool.and_eq_true] at h
    obtain ⟨e1, e2⟩ := simpleCell_rel h.1 hx.head hy.head
    obtain ⟨e3, e4⟩ := allCells_rel h.2 hx.tail hy.tail
    exact ⟨by rw [e1, e3], fun n => by simp only [List.zip_cons_cons, List.all_cons, e2 n, e4 n, Bool.and_self]⟩
  | [], _ :: _, _, _, h, _, _ => by cases h
  | _ :: _, [], _, _, h, _, _ => by cases h

theorem keyBits_rel {k v k' v' : Value} (h : keyBits k v = true) (hk : VRel ρ k k') (hv : VRel ρ v v') : Instr.sameBits 10000 v' k' = true := by
  unfold keyBits at h
  split at h
  · obtain ⟨xs', rfl, hx⟩ := hk.agg_inv
    obtain ⟨ys', rfl, hy⟩ := hv.agg_inv
    obtain ⟨e1, e2⟩ := allCells_rel h hx hy
    have e : xs' = ys' := Array.ext' e1
    rw [show (10000 : Nat) = 9999 + 1 from rfl, Instr.sameBits]
    rw [e2 9999, e]
    simp
  · cases h

theorem checkKey_fields {b : Bool} {n : Nat} {cs cs' : Array Value} (hc : LRel ρ cs.toList cs'.toList) (w : World) : ∀ (fs : List Field),
    (fs.all fun f => !(f.name == "_") && (match P.underlying f.type with | some d => simpleKey d | none => false) && (cpart P f.type cs f.offset).isSome) = true →
    (forIn fs PUnit.unit (fun f _ => do
      if f.name ≠ "_" then do Instr.checkKey b (n + 1) f.type (← part f.type cs' f.offset); pure (ForInStep.yield PUnit.unit) else pure (ForInStep.yield PUnit.unit)) : Sem PUnit).run P w = .ok PUnit.unit w := by
  intro fs
  induction fs with
  | nil => intro _; simp
  | cons f fs ih =>
    intro h
    simp only [List.all_cons, Bool.and_eq_true] at h
    obtain ⟨⟨⟨h1, h2⟩, h3⟩, h4⟩ := h
    have hn : f.name ≠ "_" := by simpa using h1
    obtain ⟨v, hv⟩ := Option.isSome_iff_exists.1 h3
    obtain ⟨v', hv', _⟩ := cpart_rel hv hc w
    have hck : (Instr.checkKey b (n + 1) f.type v').run P w = .ok () w := by
      split at h2
      · rename_i d hd
        rw [Instr.checkKey]
        simp only [Sem.run_bind, run_underlying' hd, Result.andThen_ok]
        cases d <;> first | (cases h2; done) | rfl
      · cases h2
    simp only [List.forIn_cons, if_pos hn, Sem.run_bind, hv', Result.andThen_ok, hck, Sem.run_pure]
    exact ih h4

theorem sfind_rel {t : TypeId} {k k' : Value} (hk : VRel ρ k k') : ∀ {es es' : List MapEntry}, ELRel ρ es es' → ∀ {i : Nat} {r : Option (Nat × Value)}, sfind P t k es i = some r →
    ∃ r', (∀ w : World, (Instr.findAsking t k' es' i).run P w = .ok r' w) ∧ ((r = none ∧ r' = none) ∨ ∃ j v v' en, r = some (j, v) ∧ r' = some (j, v') ∧ VRel ρ v v' ∧ i ≤ j ∧ es'[j - i]? = some en ∧ Instr.sameBits 10000 en.key k' = true) := by
  intro es
  induction es with
  | nil =>
    intro es' he i r h
    cases es' with
    | cons => exact he.elim
    | nil =>
      simp only [sfind, Option.some.injEq] at h
      subst h
      exact ⟨none, fun w => by simp [Instr.findAsking], .inl ⟨rfl, rfl⟩⟩
  | cons en es ih =>
    intro es' he i r h
    cases es' with
    | nil => exact he.elim
    | cons en' es' =>
      obtain ⟨h1, h2⟩ := he
      cases h1 with
      | @mk k1 v1 k1' v1' b hkk hvv =>
        simp only [sfind] at h
        have run : ∀ (b : Bool), ceqD P 20 t k k1 = some b → ∀ w : World, (Op.equal t k' k1').run P w = .ok b w := fun b hb w => by
          rw [equal_run]; exact ceqD_sound 20 _ _ _ _ _ _ hb hk hkk 10000 (by omega) w
        split at h
        · rename_i he2
          rw [cond_eq_ite] at h
          split at h
          · rename_i hbits
            cases h
            refine ⟨some (i, v1'), fun w => by simp only [Instr.findAsking, Sem.run_bind, run true he2, Result.andThen_ok, if_true, Sem.run_pure], .inr ⟨i, v1, v1', _, rfl, rfl, hvv, Nat.le_refl _, by simp; rfl, ?_⟩⟩
            exact keyBits_rel hbits hk hkk
          · cases h
        · rename_i he2
          obtain ⟨r', hr', hcase⟩ := ih h2 h
          refine ⟨r', fun w => by simp only [Instr.findAsking, Sem.run_bind, run false he2, Result.andThen_ok, Bool.false_eq_true, if_false, hr'], hcase.imp id ?_⟩
          rintro ⟨j, v, v', en, e1, e2, e3, e4, e5, e6⟩
          refine ⟨j, v, v', en, e1, e2, e3, by omega, ?_, e6⟩
          have : j - i = (j - (i + 1)) + 1 := by omega
          rw [this]; simpa using e5
        · cases h

/-- A key looked up, on both sides. -/
theorem cfind_sound {t : TypeId} {k k' : Value} {es es' : List MapEntry} {r : Option (Nat × Value)} (h : cfind P t k es = some r) (hk : VRel ρ k k') (he : ELRel ρ es es') :
    ∃ r', (∀ (b : Bool) (w : World), (Instr.checkKey b 10000 t k').run P w = .ok () w) ∧ (∀ w : World, (Instr.findKey t k' es').run P w = .ok r' w) ∧
      ((r = none ∧ r' = none) ∨ ∃ j v v' en, r = some (j, v) ∧ r' = some (j, v') ∧ VRel ρ v v' ∧ es'[j]? = some en ∧ Instr.sameBits 10000 en.key k' = true) := by
  unfold cfind at h
  cases hd : P.underlying t with
  | none => rw [hd] at h; cases h
  | some d =>
    rw [hd] at h
    simp only [cond_eq_ite] at h
    split at h
    · rename_i hs
      rw [cfindNow_eq] at h
      obtain ⟨r', hr', hcase⟩ := findNow_rel hk he h
      refine ⟨r', fun b w => checkKey_run hd hs w, fun w => ?_, hcase.imp id ?_⟩
      · simp only [Instr.findKey, Sem.run_bind, run_underlying' hd, Result.andThen_ok, hr', Sem.run_pure]
      · rintro ⟨j, v, v', en, e1, e2, e3, _, e5, e6⟩
        exact ⟨j, v, v', en, e1, e2, e3, by simpa using e5, sameBits_of e6⟩
    · split at h
      · rename_i hf
        unfold flatKey at hf
        rw [hd] at hf
        split at hf
        · rename_i fs cs hds
          cases hds
          simp only [Bool.and_eq_true] at hf
          obtain ⟨hf1, hf2⟩ := hf
          obtain ⟨cs', rfl, hc⟩ := hk.agg_inv
          obtain ⟨r', hr', hcase⟩ := sfind_rel hk he h
          refine ⟨r', fun b w => ?_, fun w => ?_, hcase.imp id ?_⟩
          · have := checkKey_fields (P := P) (b := b) (n := 9998) hc w fs.toList hf2
            rw [show (10000 : Nat) = 9999 + 1 from rfl, Instr.checkKey]
            simp only [Sem.run_bind, run_underlying' hd, Result.andThen_ok]
            rw [← Array.forIn_toList, this]
            rfl
          · have hnow : Instr.findNow (.struct fs) (.agg cs') es' 0 = (match es' with | [] => some none | _ :: _ => none) := by
              cases es' with
              | nil => rfl
              | cons e es' => simp [Instr.findNow, Instr.sameNow]
            simp only [Instr.findKey, Sem.run_bind, run_underlying' hd, Result.andThen_ok, hnow]
            cases es' with
            | nil => have := hr' w; simpa [Instr.findAsking] using this
            | cons e es' => exact hr' w
          · rintro ⟨j, v, v', en, e1, e2, e3, _, e5, e6⟩
            exact ⟨j, v, v', en, e1, e2, e3, by simpa using e5, e6⟩
        · cases hf
      · cases h

theorem WRel.mapAt (h : WRel P w0 ρ W w) {r r' : Nat} (hr : BRel ρ r r') {es : List MapEntry} {clk : Nat} (ho : W.obj r = some (.map es clk)) :
    ∃ x es', ρ r = some x ∧ r' = x.b ∧ x.o = 0 ∧ w.heap[r']? = some (.map es' clk) ∧ ELRel ρ es es'.toList := by
  obtain ⟨x, hx, rfl⟩ := hr
  obtain ⟨o', ho', hr⟩ := h.obj ho (by simp) hx rfl
  cases hr with
  | map h1 h2 => exact ⟨x, _, hx, rfl, h1, ho', h2⟩

theorem op_lookup (hz : ZP P) {t : TypeId} {x k : Operand} {ok : Bool} (ho : o.op = .lookup t x k ok) (h : cop P o e W = some outs) (hw : WRel P w0 ρ W w) (hx : VRel ρ (e x) (e' x)) (hk : VRel ρ (e k) (e' k)) :
    OpSound P w0 ρ W ((execOp e' o).run P w) outs := by
  simp only [cop, ho] at h
  obtain ⟨v, hv, rfl⟩ := vmatch h
  split at hv
  · rename_i kt elem ht
    obtain ⟨z, hzz, hv⟩ := optB_some hv
    obtain ⟨es, hes, hv⟩ := optB_some hv
    obtain ⟨r, hr, hv⟩ := optB_some hv
    have : ∃ es' : Array MapEntry, ELRel ρ es es'.toList ∧ ((e' x = .map none ∧ es' = #[]) ∨ ∃ r clk, e' x = .map (some r) ∧ w.heap[r]? = some (.map es' clk)) := by
      generalize e' x = vx' at *
      split at hes
      · rename_i hc
        rw [hc] at hx
        cases hx
        cases hes
        exact ⟨#[], trivial, .inl ⟨rfl, rfl⟩⟩
      · rename_i r0 hc
        rw [hc] at hx
        cases hx with
        | map hb =>
          split at hes
          · rename_i es0 clk hobj
            cases hes
            obtain ⟨x, es', _, _, _, hh, hrel⟩ := hw.mapAt hb hobj
            exact ⟨es', hrel, .inr ⟨_, _, rfl, hh⟩⟩
          · cases hes
      · cases hes
    obtain ⟨es', hrel, hget⟩ := this
    obtain ⟨r', hck, hfind, hcase⟩ := cfind_sound hr hk hrel
    have hrun : ∀ y : Value × Bool, ((r' = none ∧ y = (z, false)) ∨ ∃ j, r' = some (j, y.1) ∧ y.2 = true) →
        (Instr.lookup t (e' x) (e' k) ok).run P w = .ok (if ok then .tuple #[y.1, .bool y.2] else y.1) w := by
      intro y hy
      rcases hget with ⟨hc, rfl⟩ | ⟨r, clk, hc, hh⟩ <;> rcases hy with ⟨rfl, rfl⟩ | ⟨j, rfl, h2⟩
      · simp only [Instr.lookup, Sem.run_bind, run_underlying' ht, Result.andThen_ok, hc, Sem.run_pure, hck, hfind, run_zeroValue' hzz]
      · simp only [Instr.lookup, Sem.run_bind, run_underlying' ht, Result.andThen_ok, hc, Sem.run_pure, hck, hfind, h2]
      · simp only [Instr.lookup, Sem.run_bind, run_underlying' ht, Result.andThen_ok, hc, run_getObj' hh (by simp), Sem.run_pure, hck, hfind, run_zeroValue' hzz]
      · simp only [Instr.lookup, Sem.run_bind, run_underlying' ht, Result.andThen_ok, hc, run_getObj' hh (by simp), Sem.run_pure, hck, hfind, h2]
    rcases hcase with ⟨rfl, rfl⟩ | ⟨j, x1, x1', en, rfl, rfl, hxx, _, _⟩
    · cases hv
      refine .value hw ?_ ?_ (v' := if ok then .tuple #[z, .bool false] else z)
      · simp only [execOp, ho]
        exact exec_v (hrun (z, false) (.inl ⟨rfl, rfl⟩))
      · cases ok
        · exact hz.rel hzz ρ
        · exact .tuple' (.cons (hz.rel hzz ρ) (.cons (.bool _) (.nil _)))
    · cases hv
      refine .value hw ?_ ?_ (v' := if ok then .tuple #[x1', .bool true] else x1')
      · simp only [execOp, ho]
        exact exec_v (hrun (x1', true) (.inr ⟨j, rfl, rfl⟩))
      · cases ok
        · exact hxx
        · exact .tuple' (.cons hxx (.cons (.bool _) (.nil _)))
  · cases hv

theorem ELRel.push : ∀ {es es' : List MapEntry}, ELRel ρ es es' → ∀ {a b : MapEntry}, ERel ρ a b → ELRel ρ (es ++ [a]) (es' ++ [b])
  | [], [], _, _, _, h => ⟨h, trivial⟩
  | _ :: _, _ :: _, h, _, _, k => ⟨h.1, h.2.push k⟩
  | [], _ :: _, h, _, _, _ => h.elim
  | _ :: _, [], h, _, _, _ => h.elim

theorem ELRel.modAt : ∀ {es es' : List MapEntry}, ELRel ρ es es' → ∀ {v v' k k' : Value}, VRel ρ v v' → VRel ρ k k' → ∀ i, ELRel ρ (modAt v k i es) (es'.modify i fun en => { en with key := k', val := v' })
  | [], [], _, _, _, _, _, _, _, i => by cases i <;> simp [Ce.modAt, ELRel]
  | en :: es, en' :: es', h, _, _, _, _, hv, hk, 0 => by
    cases h.1 with
    | mk b _ _ => simp only [Ce.modAt, List.modify_zero_cons]; exact ⟨.mk b hk hv, h.2⟩
  | en :: es, en' :: es', h, _, _, _, _, hv, hk, i + 1 => by
    simp only [Ce.modAt, List.modify_succ_cons]; exact ⟨h.1, ELRel.modAt h.2 hv hk i⟩
  | [], _ :: _, h, _, _, _, _, _, _, _ => h.elim
  | _ :: _, [], h, _, _, _, _, _, _, _ => h.elim

theorem ELRel.dropAt : ∀ {es es' : List MapEntry}, ELRel ρ es es' → ∀ i, ELRel ρ (dropAt i es) (es'.eraseIdx i)
  | [], [], _, i => by cases i <;> simp [Ce.dropAt, ELRel]
  | en :: es, en' :: es', h, 0 => by simp only [Ce.dropAt, List.eraseIdx_cons_zero]; exact h.2
  | en :: es, en' :: es', h, i + 1 => by simp only [Ce.dropAt, List.eraseIdx_cons_succ]; exact ⟨h.1, ELRel.dropAt h.2 i⟩
  | [], _ :: _, h, _ => h.elim
  | _ :: _, [], h, _ => h.elim

theorem ELRel.length : ∀ {es es' : List MapEntry}, ELRel ρ es es' → es.length = es'.length
  | [], [], _ => rfl
  | _ :: _, _ :: _, h => by simp [ELRel.length h.2]
  | [], _ :: _, h => h.elim
  | _ :: _, [], h => h.elim

theorem op_mapUpdate {t : TypeId} {m k x : Operand} (ho : o.op = .mapUpdate t m k x ∨ o.op = .insert t m k x) (h : cop P o e W = some outs) (hw : WRel P w0 ρ W w) (hm : VRel ρ (e m) (e' m)) (hk : VRel ρ (e k) (e' k)) (hx : VRel ρ (e x) (e' x)) :
    OpSound P w0 ρ W ((execOp e' o).run P w) outs := by
  rcases ho with ho | ho
  all_goals
    simp only [cop, ho] at h
    obtain ⟨W1, hv, rfl⟩ := swmatch h
    split at hv
    · rename_i kt elem r ht hc
      rw [hc] at hm
      generalize hcc : e' m = vm' at hm
      cases hm with
      | @map _ r' hb =>
        split at hv
        · rename_i es clk hobj
          obtain ⟨y, es', hy, rfl, hy0, hh, hrel⟩ := hw.mapAt hb hobj
          obtain ⟨f, hf, hv⟩ := optB_some hv
          obtain ⟨r', hck, hfind, hcase⟩ := cfind_sound hf hk hrel
          rcases hcase with ⟨rfl, rfl⟩ | ⟨j, x1, x1', en, rfl, rfl, hxx, hen, hsame⟩
          · cases hv
            refine ⟨_, _, ρ, List.mem_singleton.2 rfl, .refl _, .skip (w := { w with heap := w.heap.setIfInBounds y.b (.map (es'.push { key := e' k, val := e' x, born := clk }) (clk + 1)) }) ?_ ?_⟩
            · simp only [execOp, ho, hcc]
              refine exec_u ?_
              simp only [Instr.mapUpdate, Sem.run_bind, run_underlying' ht, Result.andThen_ok, run_getObj' hh (by simp), hck, hfind, run_setObj' hh (by simp)]
            · refine hw.upd hobj rfl hy (.map hy0 ?_)
              rw [Array.toList_push]
              exact hrel.push (.mk clk hk hx)
          · cases hv
            refine ⟨_, _, ρ, List.mem_singleton.2 rfl, .refl _, .skip (w := { w with heap := w.heap.setIfInBounds y.b (.map (es'.modify j fun en => { en with key := e' k, val := e' x }) clk) }) ?_ ?_⟩
            · simp only [execOp, ho, hcc]
              refine exec_u ?_
              have hen' : es'[j]? = some en := by simpa using hen
              simp only [Instr.mapUpdate, Sem.run_bind, run_underlying' ht, Result.andThen_ok, run_getObj' hh (by simp), hck, hfind, Instr.keyThatStays, hen', Option.map_some, Option.getD_some, hsame, if_true, Sem.run_pure, run_setObj' hh (by simp)]
            · refine hw.upd hobj rfl hy (.map hy0 ?_)
              rw [Array.toList_modify]
              exact hrel.modAt hx hk j
        · cases hv
    · cases hv

theorem op_range {t : TypeId} {x : Operand} (ho : o.op = .range t x) (h : cop P o e W = some outs) (hw : WRel P w0 ρ W w) (hx : VRel ρ (e x) (e' x)) :
    OpSound P w0 ρ W ((execOp e' o).run P w) outs := by
  simp only [cop, ho] at h
  obtain ⟨v, W1, hv, rfl⟩ := vwmatch h
  generalize hcc : e' x = vx' at *
  split at hv
  · rename_i kt elem ht hc
    rw [hc] at hx
    cases hx
    simp only [Option.some.injEq, Prod.mk.injEq] at hv
    obtain ⟨rfl, rfl⟩ := hv
    obtain ⟨hext, hw'⟩ := hw.new (o := .iter none 0 [] 0) (o' := .mapIter none 0 #[] 0) ⟨w.heap.size, 0, 0, 0, 0⟩ rfl (.iterNone rfl)
    refine ⟨_, _, _, List.mem_singleton.2 rfl, hext, .value (v' := .pointer (some ⟨w.heap.size, 0, none⟩)) (w := { w with heap := w.heap.push (.mapIter none 0 #[] 0) }) ?_ (.ptr ⟨rfl, ⟨w.heap.size, 0, 0, 0, 0⟩, by simp, by simp⟩) hw'⟩
    simp only [execOp, ho, hcc]
    refine exec_v ?_
    simp [Instr.range, run_underlying' ht]
  · rename_i kt elem r ht hc
    rw [hc] at hx
    cases hx with
    | @map _ r' hb =>
      split at hv
      · rename_i es clk hobj
        simp only [Option.some.injEq, Prod.mk.injEq] at hv
        obtain ⟨rfl, rfl⟩ := hv
        obtain ⟨y, es', hy, rfl, hy0, hh, hrel⟩ := hw.mapAt hb hobj
        have hlt := hw.dom r y hy
        obtain ⟨hext, hw'⟩ := hw.new (o := .iter (some r) clk [] clk) (o' := .mapIter (some y.b) clk [].toArray clk) ⟨w.heap.size, 0, 0, 0, 0⟩ rfl (.iter rfl ⟨y, by simp [show r ≠ W.sz by omega, hy], rfl⟩)
        refine ⟨_, _, _, List.mem_singleton.2 rfl, hext, .value (v' := .pointer (some ⟨w.heap.size, 0, none⟩)) (w := { w with heap := w.heap.push (.mapIter (some y.b) clk [].toArray clk) }) ?_ (.ptr ⟨rfl, ⟨w.heap.size, 0, 0, 0, 0⟩, by simp, by simp⟩) hw'⟩
        simp only [execOp, ho, hcc]
        refine exec_v ?_
        simp [Instr.range, run_underlying' ht, run_getObj' hh (by simp)]
      · cases hv
  · cases hv

theorem ELRel.filter (p : Nat → Bool) : ∀ {es es' : List MapEntry}, ELRel ρ es es' → ELRel ρ (es.filter fun e => p e.born) (es'.filter fun e => p e.born)
  | [], [], _ => trivial
  | en :: es, en' :: es', h => by
    cases h.1 with
    | mk b hk hv =>
      simp only [List.filter_cons]
      cases p b
      · simpa using ELRel.filter p h.2
      · simpa using ⟨.mk b hk hv, ELRel.filter p h.2⟩
  | [], _ :: _, h => h.elim
  | _ :: _, [], h => h.elim
theorem ELRel.append : ∀ {es es' us us' : List MapEntry}, ELRel ρ es es' → ELRel ρ us us' → ELRel ρ (es ++ us) (es' ++ us')
  | [], [], _, _, _, h => h
  | _ :: _, _ :: _, _, _, h, k => ⟨h.1, h.2.append k⟩
  | [], _ :: _, _, _, h, _ => h.elim
  | _ :: _, [], _, _, h, _ => h.elim
theorem ELRel.get : ∀ {es es' : List MapEntry}, ELRel ρ es es' → ∀ {i : Nat} {b : MapEntry}, es'[i]? = some b → ∃ a, es[i]? = some a ∧ ERel ρ a b
  | [], [], _, i, _, h => by simp at h
  | a :: es, a' :: es', h, 0, b, hb => by simp at hb; subst hb; exact ⟨a, rfl, h.1⟩
  | _ :: es, _ :: es', h, i + 1, b, hb => by simpa using ELRel.get h.2 (by simpa using hb)
  | [], _ :: _, h, _, _, _ => h.elim
  | _ :: _, [], h, _, _, _ => h.elim
theorem ELRel.all (p : Nat → Bool) : ∀ {es es' : List MapEntry}, ELRel ρ es es' → (es.all fun e => p e.born) = (es'.all fun e => p e.born)
  | [], [], _ => rfl
  | en :: es, en' :: es', h => by cases h.1 with | mk b _ _ => simp only [List.all_cons, ELRel.all p h.2]
  | [], _ :: _, h => h.elim
  | _ :: _, [], h => h.elim

theorem WRel.iterAt (h : WRel P w0 ρ W w) {a a' : Addr} (ha : ARel ρ a a') {m s l : Nat} {seen : List Nat} (ho : W.obj a.block = some (.iter (some m) s seen l)) :
    ∃ x m', ρ a.block = some x ∧ a' = ⟨x.b, a.off, none⟩ ∧ x.o = 0 ∧ BRel ρ m m' ∧ w.heap[x.b]? = some (.mapIter (some m') s seen.toArray l) := by
  obtain ⟨_, x, hx, rfl⟩ := ha
  obtain ⟨o', ho', hr⟩ := h.obj ho (by simp) hx rfl
  cases hr with
  | iter h1 h2 => exact ⟨x, _, hx, by rw [h1]; rfl, h1, h2, ho'⟩

theorem ELRel.find (n : Nat) : ∀ {es es' : List MapEntry}, ELRel ρ es es' → ∀ {a : MapEntry}, es.find? (fun e => Nat.beq e.born n) = some a → ∃ b, es'.find? (fun e => e.born == n) = some b ∧ ERel ρ a b
  | [], [], _, _, h => by simp at h
  | en :: es, en' :: es', h, a, ha => by
    have hb : en'.born = en.born := by cases h.1 with | mk b _ _ => rfl
    rw [List.find?_cons] at ha ⊢
    rw [hb]
    have e1 : Nat.beq en.born n = (en.born == n) := by rw [Bool.eq_iff_iff]; simp
    rw [e1] at ha
    cases hx : (en.born == n)
    · rw [hx] at ha; exact ELRel.find n h.2 ha
    · rw [hx] at ha; cases ha; exact ⟨en', rfl, h.1⟩
  | [], _ :: _, h, _, _ => h.elim
  | _ :: _, [], h, _, _ => h.elim

theorem op_entry {x : Operand} (ho : o.op = .entry x) (h : cop P o e W = some outs) (hw : WRel P w0 ρ W w) (hx : VRel ρ (e x) (e' x)) : OpSound P w0 ρ W ((execOp e' o).run P w) outs := by
  simp only [cop, ho] at h
  obtain ⟨v, hv, rfl⟩ := vmatch h
  generalize hcc : e' x = vx' at *
  split at hv
  · rename_i a hc
    rw [hc] at hx
    cases hx with
    | @ptr _ a' ha =>
      rw [cond_eq_ite] at hv
      split at hv
      · cases hv
      rename_i hoff
      have hoff : a.off = 0 := by simpa using hoff
      split at hv
      · rename_i r since seen stepped hobj
        obtain ⟨y, m', hy, rfl, _, hm, hh⟩ := hw.iterAt ha hobj
        split at hv
        · rename_i st es clk hlast hobj2
          obtain ⟨y2, es', hy2, rfl, _, hh2, hrel⟩ := hw.mapAt hm hobj2
          rw [cond_eq_ite] at hv
          split at hv
          · rename_i hclk
            have hclk := Nat.eq_of_beq_eq_true hclk
            subst hclk
            rw [Option.map_eq_some_iff] at hv
            obtain ⟨en, hen, rfl⟩ := hv
            obtain ⟨en', hen', hr⟩ := hrel.find st hen
            have hf : es'.find? (fun e => e.born == st) = some en' := by rw [← Array.find?_toList]; exact hen'
            have hl : seen.toArray.back? = some st := by simpa [Array.back?_eq_getElem?, List.getLast?_eq_getElem?] using hlast
            refine .value hw (v' := .tuple #[en'.key, en'.val]) ?_ ?_
            · simp only [execOp, ho, hcc]
              refine exec_v ?_
              simp [Instr.entry, hoff, run_getObj' hh (by simp), run_getObj' hh2 (by simp), hl, hf]
            · cases hr with
              | mk b h1 h2 => exact .tuple' (.cons h1 (.cons h2 (.nil _)))
          · cases hv
        · cases hv
      · cases hv
  · cases hv

theorem cands_rel {es es' : List MapEntry} (h : ELRel ρ es es') (since : Nat) (seen : List Nat) {c : Option MapEntry} (hc : c ∈ cands es' since seen) :
    ∃ c0, c0 ∈ cands es since seen ∧ ((c0 = none ∧ c = none) ∨ ∃ a b, c0 = some a ∧ c = some b ∧ ERel ρ a b) := by
  unfold cands at hc ⊢
  have hl := h.filter (fun b => !seen.contains b)
  have ho := hl.filter (fun b => decide (b < since))
  have hn := hl.filter (fun b => !decide (b < since))
  simp only [List.mem_append, List.mem_map] at hc
  rcases hc with hc | ⟨b, hb, rfl⟩
  · have hlen := ho.length
    refine ⟨none, ?_, ?_⟩
    · simp only [List.mem_append]
      left
      cases hx : (List.filter (fun e => decide (e.born < since)) (List.filter (fun e => !seen.contains e.born) es')) with
      | nil =>
        rw [hx] at hlen
        have : (List.filter (fun e => decide (e.born < since)) (List.filter (fun e => !seen.contains e.born) es)) = [] := List.length_eq_zero_iff.1 (by simpa using hlen)
        rw [this]; simp
      | cons y ys => rw [hx] at hc; simp at hc
    · left
      refine ⟨rfl, ?_⟩
      rw [cond_eq_ite] at hc
      split at hc
      · simpa using hc
      · simp at hc
  · rw [← List.mem_append] at hb
    obtain ⟨i, hi, hbi⟩ := List.getElem_of_mem hb
    obtain ⟨a, ha, hr⟩ := (ho.append hn).get (i := i) (b := b) (by rw [List.getElem?_eq_getElem hi, hbi])
    refine ⟨some a, ?_, .inr ⟨a, b, rfl, rfl, hr⟩⟩
    simp only [List.mem_append]
    right
    exact List.mem_map_of_mem (List.mem_of_getElem? ha)

theorem op_next {x : Operand} (ho : o.op = .next x false) (h : cop P o e W = some outs) (hw : WRel P w0 ρ W w) (hx : VRel ρ (e x) (e' x)) : OpSound P w0 ρ W ((execOp e' o).run P w) outs := by
  simp only [cop, ho] at h
  generalize hcc : e' x = vx' at *
  split at h
  · rename_i a hc
    rw [hc] at hx
    cases hx with
    | @ptr _ a' ha =>
      rw [cond_eq_ite] at h
      split at h
      · cases h
      rename_i hoff
      have hoff : a.off = 0 := by simpa using hoff
      split at h
      · rename_i s1 s2 s3 hobj
        cases h
        obtain ⟨_, y, hy, rfl⟩ := ha
        obtain ⟨o', ho', hr⟩ := hw.obj hobj (by simp) hy rfl
        cases hr with
        | iterNone h0 =>
          refine .value hw ?_ (.tuple' (.cons (.bool _) (.nil _))) (v' := .tuple #[.bool false])
          simp only [execOp, ho, hcc]
          refine exec_v ?_
          simp [Instr.next, hoff, h0, run_getObj' ho' (by simp)]
      · rename_i r since seen last hobj
        obtain ⟨y, m', hy, rfl, hy0, hm, hh⟩ := hw.iterAt ha hobj
        split at h
        · rename_i es clk hobj2
          obtain ⟨y2, es', hy2, rfl, _, hh2, hrel⟩ := hw.mapAt hm hobj2
          rw [cond_eq_ite] at h
          split at h
          · cases h
          · rename_i hcond
            simp only [Option.some.injEq] at h
            subst h
            have hcond' : (!seen.toArray.isEmpty && !es'.isEmpty && es'.all (fun e => decide (e.born ≥ last))) = false := by
              have e1 : seen.toArray.isEmpty = seen.isEmpty := by cases seen <;> rfl
              have e2 : es'.isEmpty = es.isEmpty := by
                have := hrel.length
                cases es with
                | nil => have : es'.size = 0 := by simpa using this.symm
                         simp [Array.isEmpty, this]
                | cons y ys => have : es'.size = ys.length + 1 := by simpa using this.symm
                               simp [Array.isEmpty, this]
              have e3 : es'.all (fun e => decide (e.born ≥ last)) = es.all (fun e => !decide (e.born < last)) := by
                rw [← Array.all_toList, hrel.all (fun b => !decide (b < last))]
                congr 1
                funext en
                by_cases hb : en.born < last
                · simp [hb]
                · simp [hb]; omega
              rw [e1, e2, e3]
              simpa using hcond
            generalize hC : ((if ((es'.filter fun e => !seen.toArray.contains e.born).filter fun e => decide (e.born < since)).isEmpty then #[none] else #[]) ++ (((es'.filter fun e => !seen.toArray.contains e.born).filter fun e => decide (e.born < since)) ++ ((es'.filter fun e => !seen.toArray.contains e.born).filter fun e => decide (e.born ≥ since))).map some : Array (Option MapEntry)) = C
            have hcands : C.toList = cands es'.toList since seen := by
              have e1 : ∀ n : Nat, seen.toArray.contains n = seen.contains n := fun n => by simp
              have e2 : (fun e : MapEntry => !decide (e.born < since)) = (fun e : MapEntry => decide (e.born ≥ since)) := by
                funext en
                by_cases hb : en.born < since
                · simp [hb]
                · simp [hb]; omega
              rw [← hC]
              simp only [cands, e1, e2, Array.toList_append, Array.toList_map, Array.toList_filter, cond_eq_ite]
              congr 1
              have e3 : ∀ A : Array MapEntry, A.isEmpty = A.toList.isEmpty := fun A => by rw [Bool.eq_iff_iff]; simp [Array.isEmpty_iff, List.isEmpty_iff]
              rw [e3]
              simp only [Array.toList_filter]
              split <;> rfl
            have hpos : 0 < C.size := by
              rw [← Array.length_toList, hcands]
              unfold cands
              cases hx : (List.filter (fun e => decide (e.born < since)) (List.filter (fun e => !seen.contains e.born) es'.toList)) with
              | nil => simp only [hx, List.isEmpty_nil, cond_true, List.length_append, List.length_cons]; omega
              | cons y ys => simp only [hx, List.length_append, List.length_map, List.length_cons]; omega
            obtain ⟨i, w2, hch, hi, hw2, hheap⟩ : ∃ i w2, (choose (.mapNext C.size)).run P w = .ok i w2 ∧ i < C.size ∧ WRel P w0 ρ W w2 ∧ w2.heap = w.heap := by
              rw [run_choose]
              split
              · exact ⟨0, w, rfl, hpos, hw, rfl⟩
              · exact ⟨_, _, rfl, by simp only [Question.cut]; exact Nat.mod_lt _ hpos, hw.drew _, rfl⟩
            have hci : C[i]? = some C[i] := by simp [hi]
            obtain ⟨c0, hc0, hcase⟩ := cands_rel (c := C[i]) hrel since seen (by rw [← hcands]; simp)
            rw [← hheap] at hh hh2
            rcases hcase with ⟨rfl, hcn⟩ | ⟨en, en', rfl, hcn, hr⟩
            · refine ⟨.value (.tuple #[.bool false]), W, ρ, ?_, .refl _, .value (v' := .tuple #[.bool false]) (w := w2) ?_ (.tuple' (.cons (.bool _) (.nil _))) hw2⟩
              · exact List.mem_map.2 ⟨none, hc0, rfl⟩
              · simp only [execOp, ho, hcc]
                refine exec_v ?_
                rw [hcn] at hci
                rw [hheap] at hh hh2
                simp only [Instr.next, hoff, hy0, Nat.add_zero, Sem.run_bind, run_getObj' hh (by simp), run_getObj' hh2 (by simp), Result.andThen_ok, hcond', hC, hch, hci, Sem.run_pure, Bool.false_eq_true, if_false]
            · refine ⟨.value (.tuple #[.bool true, en.key, en.val]), W.upd a.block (.iter (some r) since (seen ++ [en.born]) clk), ρ, ?_, .refl _,
                .value (v' := .tuple #[.bool true, en'.key, en'.val]) (w := { w2 with heap := w2.heap.setIfInBounds y.b (.mapIter (some y2.b) since (seen ++ [en.born]).toArray clk) }) ?_ ?_ (hw2.upd hobj rfl hy (.iter hy0 hm))⟩
              · exact List.mem_map.2 ⟨some en, hc0, rfl⟩
              · simp only [execOp, ho, hcc]
                refine exec_v ?_
                rw [hcn] at hci
                have hborn : en'.born = en.born := by cases hr with | mk b _ _ => rfl
                have hset := run_setObj' (P := P) hh (by simp) (.mapIter (some y2.b) since (seen ++ [en.born]).toArray clk)
                rw [hheap] at hh hh2
                have epush : seen.toArray.push en.born = (seen ++ [en.born]).toArray := by simp
                simp only [Instr.next, hoff, hy0, Nat.add_zero, Sem.run_bind, run_getObj' hh (by simp), run_getObj' hh2 (by simp), Result.andThen_ok, hcond', hC, hch, hci, hborn, epush, hset, Sem.run_pure, Bool.false_eq_true, if_false]
              · cases hr with
                | mk b h1 h2 => exact .tuple' (.cons (.bool _) (.cons h1 (.cons h2 (.nil _))))
        · cases h
      · cases h
  · cases h
end
end Go.Ce
