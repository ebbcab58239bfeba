/- The canonical machine for closed runs: numbers compared and reckoned with; addresses; aggregates. -/
import Derived.Test.YtcjjhebocgbbdaaGreatCh
import Derived.Laws.StructEq
import Derived.Laws.Concat
set_option linter.unusedSectionVars false
set_option linter.unusedVariables false
set_option linter.unusedSimpArgs false
namespace Go.Ce
open Go.RowKit (Below)

section
variable {P : Program} {w0 : World} {ρ : Ren} {W : CW} {w : World} {o : Oper} {e e' : Operand → Value} {outs : List (CNext × CW)}

theorem cint_sound {op : BinOp} {k : IntKind} {a b : Int} {v : Value} {t : TypeId} (h : cint op k a b = some v) (w : World) : (binOp op t (.int k a) (.int k b)).run P w = .ok v w ∧ VRel ρ v v := by
  cases op <;> simp only [cint] at h
  case quo =>
    rw [cond_eq_ite] at h
    split at h
    · cases h
    · rename_i hb
      cases h
      have : ¬ b = 0 := by simpa using hb
      exact ⟨by simp [binOp, Op.intDiv, this], .int _ _⟩
  case rem =>
    rw [cond_eq_ite] at h
    split at h
    · cases h
    · rename_i hb
      cases h
      have : ¬ b = 0 := by simpa using hb
      exact ⟨by simp [binOp, Op.intDiv, this], .int _ _⟩
  case and => cases h; exact ⟨by simp only [binOp, ne_eq, not_true_eq_false, if_false, Op.intBits, Sem.run_pure], .int _ _⟩
  case or => cases h; exact ⟨by simp only [binOp, ne_eq, not_true_eq_false, if_false, Op.intBits, Sem.run_pure], .int _ _⟩
  case xor => cases h; exact ⟨by simp only [binOp, ne_eq, not_true_eq_false, if_false, Op.intBits, Sem.run_pure], .int _ _⟩
  case andNot => cases h; exact ⟨by simp only [binOp, ne_eq, not_true_eq_false, if_false, Op.intBits, Sem.run_pure], .int _ _⟩
  all_goals first
    | (cases h; done)
    | (cases h; exact ⟨by simp [binOp, Op.intArith], .int _ _⟩)
    | (cases h; exact ⟨by simp [binOp, Op.intCmp], .bool _⟩)

theorem bEq_eq : ∀ (x y : List UInt8), bEq x y = (x == y)
  | [], [] => rfl
  | [], _ :: _ => rfl
  | _ :: _, [] => rfl
  | a :: x, b :: y => by
    have h1 : Nat.beq a.toNat b.toNat = (a == b) := by
      rw [Bool.eq_iff_iff]
      simp only [Nat.beq_eq, beq_iff_eq]
      exact ⟨fun h => UInt8.toNat_inj.1 h, fun h => by rw [h]⟩
    simp only [bEq, bEq_eq x y, h1, List.cons_beq_cons]
theorem bLt_eq : ∀ (x y : List UInt8), bLt x y = Op.bytesLess x y
  | [], [] => rfl
  | [], _ :: _ => rfl
  | _ :: _, [] => rfl
  | a :: x, b :: y => by
    have h1 : Nat.beq a.toNat b.toNat = (a == b) := by
      rw [Bool.eq_iff_iff]
      simp only [Nat.beq_eq, beq_iff_eq]
      exact ⟨fun h => UInt8.toNat_inj.1 h, fun h => by rw [h]⟩
    have h2 : Nat.blt a.toNat b.toNat = decide (a < b) := by
      rw [Bool.eq_iff_iff]
      simp only [Nat.blt_eq, decide_eq_true_eq]
      exact UInt8.lt_iff_toNat_lt.symm
    simp only [bLt, bLt_eq x y, h1, h2, Op.bytesLess]
theorem sb_eq (a : ByteArray) : sb a = a.toList := (ByteArray.toList_eq a).symm
theorem bEq_sound {a b : ByteArray} : bEq (sb a) (sb b) = (a.toList == b.toList) := by rw [bEq_eq, sb_eq, sb_eq]
theorem bLt_sound {a b : ByteArray} : bLt (sb a) (sb b) = Op.bytesLess a.toList b.toList := by rw [bLt_eq, sb_eq, sb_eq]
theorem bEq_true {a b : ByteArray} (h : bEq (sb a) (sb b) = true) : a = b := by
  rw [bEq_eq] at h
  have h : a.data.toList = b.data.toList := by simpa [sb] using h
  cases a; cases b
  exact congrArg ByteArray.mk (Array.ext' h)

theorem cstr_sound {op : BinOp} {a b : ByteArray} {v : Value} {t : TypeId} (h : cstr op a b = some v) (w : World) : (binOp op t (.string a) (.string b)).run P w = .ok v w ∧ VRel ρ v v := by
  cases op <;> simp only [cstr] at h <;> first
    | (cases h; done)
    | (cases h; exact ⟨by simp only [binOp, Op.stringOp, Sem.run_pure, bEq_sound, bLt_sound], .bool _⟩)
    | skip
  rw [cond_eq_ite] at h
  split at h
  · rename_i hle
    have hle := Nat.le_of_ble_eq_true hle
    cases h
    refine ⟨?_, .string _⟩
    show (Op.stringOp .add a b).run P w = _
    rw [run_string_add_sum (P := P) w a b hle]
    congr 2
  · cases h

theorem ceq_sound {d : TypeDesc} {t : TypeId} {x y x' y' : Value} {b : Bool} (ht : P.underlying t = some d) (h : ceq d x y = some b) (hx : VRel ρ x x') (hy : VRel ρ y y') (w : World) (n : Nat) :
    (Op.equalIn (n + 1) t x' y').run P w = .ok b w := by
  rw [Op.equalIn]
  simp only [Sem.run_bind, run_underlying' ht, Result.andThen_ok]
  unfold ceq at h
  split at h <;> first | (cases h; done) | skip
  all_goals
    cases h
    cases hx <;> cases hy <;> rfl

theorem equal_run (t : TypeId) (x y : Value) : Op.equal t x y = Op.equalIn (9999 + 1) t x y := rfl

theorem cpart_rel {t : TypeId} {xs xs' : Array Value} {off : Nat} {v : Value} (h : cpart P t xs off = some v) (hx : LRel ρ xs.toList xs'.toList) (w : World) : ∃ v', (part t xs' off).run P w = .ok v' w ∧ VRel ρ v v' := by
  unfold cpart at h
  split at h
  · rename_i m ha hm
    cases h
    refine ⟨.agg (xs'.extract off (off + m)), by simp only [part, Sem.run_bind, run_isAgg' ha, Result.andThen_ok, if_true, run_sizeOf' hm, Sem.run_pure], .agg' ?_⟩
    refine ⟨by simp; have := hx.1; simp at this; rw [this], fun i hi => ?_⟩
    have hs : xs.size = xs'.size := by simpa using hx.1
    simp at hi
    have := hx.2 (off + i) (by simp; omega)
    simp only [List.getD_eq_getElem?_getD, Array.getElem?_toList] at this ⊢
    rw [Array.getElem?_extract, Array.getElem?_extract, if_pos (by omega), if_pos (by omega)]
    exact this
  · rename_i ha
    obtain ⟨y, hy, hv⟩ := hx.get (i := off) (x := v) (by simpa using h)
    have hy : xs'[off]? = some y := by simpa using hy
    exact ⟨y, by simp only [part, Sem.run_bind, run_isAgg' ha, Result.andThen_ok, Bool.false_eq_true, if_false, hy, Sem.run_pure], hv⟩
  · cases h

theorem ceqFs_sound {eq : TypeId → Value → Value → Option Bool} {n : Nat} (hq : ∀ t x y b x' y', eq t x y = some b → VRel ρ x x' → VRel ρ y y' → ∀ w : World, (Op.equalIn n t x' y').run P w = .ok b w)
    {xs ys xs' ys' : Array Value} (hx : LRel ρ xs.toList xs'.toList) (hy : LRel ρ ys.toList ys'.toList) (w : World) : ∀ (fs : List Field) (b : Bool), ceqFs P eq xs ys fs = some b → (Op.eqFields n xs' ys' fs).run P w = .ok b w := by
  intro fs
  induction fs with
  | nil => intro b h; cases h; simp [Op.eqFields]
  | cons f fs ih =>
    intro b h
    simp only [ceqFs, cond_eq_ite] at h
    split at h
    · rename_i hn
      have hn : f.name = "_" := by simpa using hn
      simp only [Op.eqFields, hn, ne_eq, not_true_eq_false, if_false]
      exact ih b h
    · rename_i hn
      have hn : f.name ≠ "_" := by simpa using hn
      split at h
      · rename_i u v hu hv
        obtain ⟨u', hu', ru⟩ := cpart_rel hu hx w
        obtain ⟨v', hv', rv⟩ := cpart_rel hv hy w
        simp only [Op.eqFields, if_pos hn, Sem.run_bind, hu', hv', Result.andThen_ok]
        split at h
        · rename_i he
          rw [hq _ _ _ _ _ _ he ru rv w]
          simp only [Result.andThen_ok, Bool.not_true, Bool.false_eq_true, if_false]
          exact ih b h
        · rename_i he
          cases h
          rw [hq _ _ _ _ _ _ he ru rv w]
          simp
        · cases h
      · cases h

theorem eqGuard_key (t : TypeId) (x y : Operand) (a b : Value) : ∀ op, (op = BinOp.eql ∨ op = .neq) → (eqGuard op t x y a b) = (match a, b with
    | .nilIface, .nilIface =>
      if ((match x with | .const _ => true | _ => false) || (match y with | .const _ => true | _ => false)) = true then pure () else do
      if ← Op.eqGuardIn Op.maxDepth t a b then unsupported (.noEntry "binop/eql: two nil values of an interface type with methods, neither of them the literal nil")
    | .agg _, .agg _ => do
      if !(← program).eqGuardType (← program).depth t then return
      if ← Op.eqGuardIn Op.maxDepth t a b then unsupported (.noEntry "binop/eql: two nil values of an interface type with methods, in a part of a struct or an array")
    | _, _ => pure ()) := by
  rintro op (rfl | rfl) <;> rfl

theorem const_or (x y : Operand) : (isConst x || isConst y) = true → ((match x with | .const _ => true | _ => false) || (match y with | .const _ => true | _ => false)) = true := by
  cases x <;> cases y <;> intro h <;> first | rfl | cases h

theorem eqGuard_run {op : BinOp} {t : TypeId} {x y : Operand} {a b : Value} (hop : op = .eql ∨ op = .neq) (h1 : ∀ u v, ¬ (a = .agg u ∧ b = .agg v)) (h2 : ¬ (a = .nilIface ∧ b = .nilIface) ∨ (isConst x || isConst y) = true) (w : World) :
    (eqGuard op t x y a b).run P w = .ok () w := by
  rw [eqGuard_key t x y a b op hop]
  split
  · rcases h2 with h2 | h2
    · exact (h2 ⟨rfl, rfl⟩).elim
    · rw [if_pos (const_or x y h2)]; rfl
  · exact (h1 _ _ ⟨rfl, rfl⟩).elim
  · rfl

theorem eqGuard_other {op : BinOp} {t : TypeId} {x y : Operand} {a b : Value} (h : op ≠ .eql) (k : op ≠ .neq) (w : World) : (eqGuard op t x y a b).run P w = .ok () w := by
  cases op <;> first | rfl | exact (h rfl).elim | exact (k rfl).elim

/-- What 'ceq' tells is of no two aggregates, and of no two nil interfaces. -/
theorem ceq_shape {d : TypeDesc} {x y x' y' : Value} {b : Bool} (h : ceq d x y = some b) (hx : VRel ρ x x') (hy : VRel ρ y y') :
    (∀ u v, ¬ (x' = .agg u ∧ y' = .agg v)) ∧ ¬ (x' = .nilIface ∧ y' = .nilIface) := by
  unfold ceq at h
  split at h <;> first | (cases h; done) | skip
  all_goals
    cases hx <;> cases hy <;> exact ⟨fun u v h => by simp at h, fun h => by simp at h⟩

/-- and of what the model's other arms do not take. -/
theorem ceq_binOp {d : TypeDesc} {t : TypeId} {x y x' y' : Value} {b : Bool} (h : ceq d x y = some b) (hx : VRel ρ x x') (hy : VRel ρ y y') :
    binOp .eql t x' y' = (do pure (.bool (← Op.equal t x' y'))) ∧ binOp .neq t x' y' = (do pure (.bool (!(← Op.equal t x' y')))) := by
  unfold ceq at h
  split at h <;> first | (cases h; done) | skip
  all_goals
    cases hx <;> cases hy <;> exact ⟨rfl, rfl⟩

theorem ceqAs_run {eq : Value → Value → Option Bool} {elem : TypeId} {n m : Nat} (hq : ∀ x y b x' y', eq x y = some b → VRel ρ x x' → VRel ρ y y' → ∀ w : World, (Op.equalIn n elem x' y').run P w = .ok b w)
    {xs ys xs' ys' : Array Value} (hx : LRel ρ xs.toList xs'.toList) (hy : LRel ρ ys.toList ys'.toList) (w : World) : ∀ (k i : Nat) (b : Bool), ceqAs P eq elem m xs ys k i = some b →
      (forIn (List.range' i k) ((none, ()) : Option Bool × Unit) (fun j _ => do
        if (!(← Op.equalIn n elem (← part elem xs' (j * m)) (← part elem ys' (j * m)))) = true then pure (ForInStep.done (some false, ())) else pure (ForInStep.yield (none, ()))) : Sem (Option Bool × Unit)).run P w = .ok (if b then (none, ()) else (some false, ())) w := by
  intro k
  induction k with
  | zero => intro i b h; cases h; simp
  | succ k ih =>
    intro i b h
    simp only [ceqAs] at h
    split at h
    · rename_i u v hu hv
      obtain ⟨u', hu', ru⟩ := cpart_rel hu hx w
      obtain ⟨v', hv', rv⟩ := cpart_rel hv hy w
      simp only [List.range'_succ, List.forIn_cons, Sem.run_bind, hu', hv', Result.andThen_ok]
      split at h
      · rename_i he
        rw [hq _ _ _ _ _ he ru rv w]
        simp only [Result.andThen_ok, Bool.not_true, Bool.false_eq_true, if_false, Sem.run_pure]
        exact ih (i + 1) b h
      · rename_i he
        cases h
        rw [hq _ _ _ _ _ he ru rv w]
        simp
      · cases h
    · cases h

theorem ceqD_sound : ∀ (n : Nat) (t : TypeId) (x y : Value) (b : Bool) (x' y' : Value), ceqD P n t x y = some b → VRel ρ x x' → VRel ρ y y' → ∀ (m : Nat), n ≤ m → ∀ w : World, (Op.equalIn m t x' y').run P w = .ok b w := by
  intro n
  induction n with
  | zero => intro t x y b x' y' h; cases h
  | succ n ih =>
    intro t x y b x' y' h hx hy m hm w
    obtain ⟨m, rfl⟩ : ∃ k, m = k + 1 := ⟨m - 1, by omega⟩
    have hm : n ≤ m := by omega
    simp only [ceqD] at h
    split at h
    · cases h
    rename_i d hd
    split at h
    · rename_i fs xs ys
      rw [cond_eq_ite] at h
      split at h
      · cases h
      · rename_i hs
        have hs : P.stoodInHeld t = false := by simpa using hs
        obtain ⟨xs', rfl, rx⟩ := hx.agg_inv
        obtain ⟨ys', rfl, ry⟩ := hy.agg_inv
        have hf : P.fieldsOf t = fs := by simp [Program.fieldsOf, hd]
        rw [run_equalIn_struct (P := P) w m t xs' ys' (by rw [hf]; exact hd) hs, hf]
        exact ceqFs_sound (fun t x y b x' y' h1 h2 h3 w => ih t x y b x' y' h1 h2 h3 m hm w) rx ry w _ _ h
    · rename_i len elem xs ys
      obtain ⟨xs', rfl, rx⟩ := hx.agg_inv
      obtain ⟨ys', rfl, ry⟩ := hy.agg_inv
      split at h
      · rename_i s hs
        have := ceqAs_run (m := s) (fun x y b x' y' h1 h2 h3 w => ih elem x y b x' y' h1 h2 h3 m hm w) rx ry w len 0 b h
        rw [Op.equalIn]
        simp only [Sem.run_bind, run_underlying' hd, Result.andThen_ok, run_sizeOf' hs, Std.Legacy.Range.forIn_eq_forIn_range', Std.Legacy.Range.size, Nat.sub_zero, Nat.add_sub_cancel, Nat.div_one]
        rw [this]
        cases b <;> simp
      · cases h
    · rename_i k1 a k2 b2
      rw [cond_eq_ite] at h
      split at h
      · rename_i hk
        have hk : k1 = k2 := by simpa using hk
        subst hk
        cases h; cases hx; cases hy
        rw [Op.equalIn]
        simp only [Sem.run_bind, run_underlying' hd, Result.andThen_ok, if_true, Sem.run_pure]
      · cases h
    · rename_i a b2
      cases h; cases hx; cases hy
      rw [Op.equalIn]
      simp only [Sem.run_bind, run_underlying' hd, Result.andThen_ok, Sem.run_pure, bEq_sound, beq_toListBytes]
    · exact ceq_sound hd h hx hy w m

theorem eqGuard_agg {op : BinOp} {t : TypeId} {x y : Operand} {xs ys : Array Value} (hop : op = .eql ∨ op = .neq) (hg : P.eqGuardType P.depth t = false) (w : World) :
    (eqGuard op t x y (.agg xs) (.agg ys)).run P w = .ok () w := by
  rw [eqGuard_key t x y _ _ op hop]
  simp only [Sem.run_bind, run_program, Result.andThen_ok, hg, Bool.not_false, if_true, Sem.run_pure]

theorem binOp_agg (t : TypeId) (xs ys : Array Value) : binOp .eql t (.agg xs) (.agg ys) = (do pure (.bool (← Op.equal t (.agg xs) (.agg ys)))) ∧ binOp .neq t (.agg xs) (.agg ys) = (do pure (.bool (!(← Op.equal t (.agg xs) (.agg ys))))) := ⟨rfl, rfl⟩

theorem equalIn_nil {t : TypeId} {m : Array (String × TypeId)} (ht : P.underlying t = some (.interface m)) (n : Nat) (w : World) : (Op.equalIn (n + 1) t .nilIface .nilIface).run P w = .ok true w := by
  rw [Op.equalIn]
  simp only [Sem.run_bind, run_underlying' ht, Result.andThen_ok, Sem.run_pure]
theorem binOp_nil (t : TypeId) : binOp .eql t .nilIface .nilIface = (do pure (.bool (← Op.equal t .nilIface .nilIface))) ∧ binOp .neq t .nilIface .nilIface = (do pure (.bool (!(← Op.equal t .nilIface .nilIface)))) := ⟨rfl, rfl⟩

theorem cbin_sound {op : BinOp} {t : TypeId} {x y : Operand} {vx vy vx' vy' v : Value} (h : cbin P op t (isConst x || isConst y) vx vy = some v) (hx : VRel ρ vx vx') (hy : VRel ρ vy vy') (w : World) :
    ∃ v', (do eqGuard op t x y vx' vy'; binOp op t vx' vy' : Sem Value).run P w = .ok v' w ∧ VRel ρ v v' := by
  unfold cbin at h
  split at h
  · rw [cond_eq_ite] at h
    split at h
    · cases h
    · rename_i hb
      cases h
      cases hx; cases hy
      simp only [decide_eq_true_eq] at hb
      exact ⟨_, by simp only [Sem.run_bind, eqGuard_other (op := .shl) (by simp) (by simp), Result.andThen_ok, binOp, Op.shift, hb, if_false, Sem.run_pure], .int _ _⟩
  · rw [cond_eq_ite] at h
    split at h
    · cases h
    · rename_i hb
      cases h
      cases hx; cases hy
      simp only [decide_eq_true_eq] at hb
      exact ⟨_, by simp only [Sem.run_bind, eqGuard_other (op := .shr) (by simp) (by simp), Result.andThen_ok, binOp, Op.shift, hb, if_false, Sem.run_pure], .int _ _⟩
  · rename_i k a k' b h1 h2
    rw [cond_eq_ite] at h
    split at h
    · rename_i hk
      have hk : k = k' := by simpa using hk
      subst hk
      cases hx; cases hy
      obtain ⟨hr, hv⟩ := cint_sound (P := P) (ρ := ρ) (t := t) h w
      refine ⟨v, ?_, hv⟩
      have hg : (eqGuard op t x y (.int k a) (.int k b)).run P w = .ok () w := by
        by_cases e1 : op = .eql
        · exact eqGuard_run (.inl e1) (fun u v h => by simp at h) (.inl fun h => by simp at h) w
        · by_cases e2 : op = .neq
          · exact eqGuard_run (.inr e2) (fun u v h => by simp at h) (.inl fun h => by simp at h) w
          · exact eqGuard_other e1 e2 w
      simp only [Sem.run_bind, hg, Result.andThen_ok, hr]
    · cases h
  · rename_i a b
    cases hx; cases hy
    obtain ⟨hr, hv⟩ := cstr_sound (P := P) (ρ := ρ) (t := t) h w
    refine ⟨v, ?_, hv⟩
    have hg : (eqGuard op t x y (.string a) (.string b)).run P w = .ok () w := by
      by_cases e1 : op = .eql
      · exact eqGuard_run (.inl e1) (fun u v h => by simp at h) (.inl fun h => by simp at h) w
      · by_cases e2 : op = .neq
        · exact eqGuard_run (.inr e2) (fun u v h => by simp at h) (.inl fun h => by simp at h) w
        · exact eqGuard_other e1 e2 w
    simp only [Sem.run_bind, hg, Result.andThen_ok, hr]
  · rw [cond_eq_ite] at h
    split at h
    · cases h
    · rename_i hg
      have hg : P.eqGuardType P.depth t = false := by simpa using hg
      rw [Option.map_eq_some_iff] at h
      obtain ⟨b, hb, rfl⟩ := h
      obtain ⟨xs', rfl, _⟩ := hx.agg_inv
      obtain ⟨ys', rfl, _⟩ := hy.agg_inv
      refine ⟨.bool b, ?_, .bool _⟩
      simp only [Sem.run_bind, eqGuard_agg (.inl rfl) hg, Result.andThen_ok, (binOp_agg t xs' ys').1, equal_run, ceqD_sound 20 _ _ _ _ _ _ hb hx hy 10000 (by omega), Sem.run_pure]
  · rw [cond_eq_ite] at h
    split at h
    · cases h
    · rename_i hg
      have hg : P.eqGuardType P.depth t = false := by simpa using hg
      rw [Option.map_eq_some_iff] at h
      obtain ⟨b, hb, rfl⟩ := h
      obtain ⟨xs', rfl, _⟩ := hx.agg_inv
      obtain ⟨ys', rfl, _⟩ := hy.agg_inv
      refine ⟨.bool (!b), ?_, .bool _⟩
      simp only [Sem.run_bind, eqGuard_agg (.inr rfl) hg, Result.andThen_ok, (binOp_agg t xs' ys').2, equal_run, ceqD_sound 20 _ _ _ _ _ _ hb hx hy 10000 (by omega), Sem.run_pure]
  · split at h
    · rename_i m hm
      rw [cond_eq_ite] at h
      split at h
      · rename_i hc
        cases h
        cases hx; cases hy
        refine ⟨.bool true, ?_, .bool _⟩
        simp only [Sem.run_bind, eqGuard_run (a := .nilIface) (b := .nilIface) (.inl rfl) (fun u v h => by simp at h) (.inr hc), Result.andThen_ok, (binOp_nil t).1, equal_run, equalIn_nil hm, Sem.run_pure]
      · cases h
    · cases h
  · split at h
    · rename_i m hm
      rw [cond_eq_ite] at h
      split at h
      · rename_i hc
        cases h
        cases hx; cases hy
        refine ⟨.bool false, ?_, .bool _⟩
        simp only [Sem.run_bind, eqGuard_run (a := .nilIface) (b := .nilIface) (.inr rfl) (fun u v h => by simp at h) (.inr hc), Result.andThen_ok, (binOp_nil t).2, equal_run, equalIn_nil hm, Sem.run_pure]
        rfl
      · cases h
    · cases h
  · split at h
    · rename_i d hd
      rw [Option.map_eq_some_iff] at h
      obtain ⟨b, hb, rfl⟩ := h
      obtain ⟨s1, s2⟩ := ceq_shape hb hx hy
      refine ⟨.bool b, ?_, .bool _⟩
      simp only [Sem.run_bind, eqGuard_run (.inl rfl) s1 (.inl s2), Result.andThen_ok, (ceq_binOp (t := t) hb hx hy).1, equal_run, ceq_sound hd hb hx hy, Sem.run_pure]
    · cases h
  · split at h
    · rename_i d hd
      rw [Option.map_eq_some_iff] at h
      obtain ⟨b, hb, rfl⟩ := h
      obtain ⟨s1, s2⟩ := ceq_shape hb hx hy
      refine ⟨.bool (!b), ?_, .bool _⟩
      simp only [Sem.run_bind, eqGuard_run (.inr rfl) s1 (.inl s2), Result.andThen_ok, (ceq_binOp (t := t) hb hx hy).2, equal_run, ceq_sound hd hb hx hy, Sem.run_pure]
    · cases h
  · cases h

theorem op_binOp {op : BinOp} {t t2 : TypeId} {x y : Operand} (ho : o.op = .binOp op t x y t2) (h : cop P o e W = some outs) (hw : WRel P w0 ρ W w) (hx : VRel ρ (e x) (e' x)) (hy : VRel ρ (e y) (e' y)) :
    OpSound P w0 ρ W ((execOp e' o).run P w) outs := by
  simp only [cop, ho] at h
  obtain ⟨v, hv, rfl⟩ := vmatch h
  obtain ⟨v', hr, hv'⟩ := cbin_sound hv hx hy w
  refine .value hw ?_ hv'
  simp only [execOp, ho]
  exact exec_v hr

end
end Go.Ce
