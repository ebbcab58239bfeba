/- The canonical machine for closed runs: numbers compared and reckoned with; addresses; aggregates. -/
import Derived.Test.YtcajkpedfkkfpaaCh
set_option linter.unusedSectionVars false
set_option linter.unusedVariables false
set_option linter.unusedSimpArgs false
namespace Go.Ce
open Go.RowKit (Below)

section
variable {P : Program} {w0 : World} {ρ : Ren} {W : CW} {w : World} {o : Oper} {e e' : Operand → Value} {outs : List (CNext × CW)}

theorem cint_sound {op : BinOp} {k : IntKind} {a b : Int} {v : Value} {t : TypeId} (h : cint op k a b = some v) (w : World) : (binOp op t (.int k a) (.int k b)).run P w = .ok v w ∧ VRel ρ v v := by
  cases op <;> simp only [cint] at h
  case quo =>
    rw [cond_eq_ite] at h
    split at h
    · cases h
    · rename_i hb
      cases h
      have : ¬ b = 0 := by simpa using hb
      exact ⟨by simp [binOp, Op.intDiv, this], .int _ _⟩
  case rem =>
    rw [cond_eq_ite] at h
    split at h
    · cases h
    · rename_i hb
      cases h
      have : ¬ b = 0 := by simpa using hb
      exact ⟨by simp [binOp, Op.intDiv, this], .int _ _⟩
  all_goals first
    | (cases h; done)
    | (cases h; exact ⟨by simp [binOp, Op.intArith], .int _ _⟩)
    | (cases h; exact ⟨by simp [binOp, Op.intCmp], .bool _⟩)

theorem ceq_sound {d : TypeDesc} {t : TypeId} {x y x' y' : Value} {b : Bool} (ht : P.underlying t = some d) (h : ceq d x y = some b) (hx : VRel ρ x x') (hy : VRel ρ y y') (w : World) (n : Nat) :
    (Op.equalIn (n + 1) t x' y').run P w = .ok b w := by
  rw [Op.equalIn]
  simp only [Sem.run_bind, run_underlying' ht, Result.andThen_ok]
  unfold ceq at h
  split at h <;> first | (cases h; done) | skip
  all_goals
    cases h
    cases hx <;> cases hy <;> rfl

theorem equal_run (t : TypeId) (x y : Value) : Op.equal t x y = Op.equalIn (9999 + 1) t x y := rfl

theorem eqGuard_key (t : TypeId) (x y : Operand) (a b : Value) : ∀ op, (op = BinOp.eql ∨ op = .neq) → (eqGuard op t x y a b) = (match a, b with
    | .nilIface, .nilIface =>
      if ((match x with | .const _ => true | _ => false) || (match y with | .const _ => true | _ => false)) = true then pure () else do
      if ← Op.eqGuardIn Op.maxDepth t a b then unsupported (.noEntry "binop/eql: two nil values of an interface type with methods, neither of them the literal nil")
    | .agg _, .agg _ => do
      if !(← program).eqGuardType (← program).depth t then return
      if ← Op.eqGuardIn Op.maxDepth t a b then unsupported (.noEntry "binop/eql: two nil values of an interface type with methods, in a part of a struct or an array")
    | _, _ => pure ()) := by
  rintro op (rfl | rfl) <;> rfl

theorem const_or (x y : Operand) : (isConst x || isConst y) = true → ((match x with | .const _ => true | _ => false) || (match y with | .const _ => true | _ => false)) = true := by
  cases x <;> cases y <;> intro h <;> first | rfl | cases h

theorem eqGuard_run {op : BinOp} {t : TypeId} {x y : Operand} {a b : Value} (hop : op = .eql ∨ op = .neq) (h1 : ∀ u v, ¬ (a = .agg u ∧ b = .agg v)) (h2 : ¬ (a = .nilIface ∧ b = .nilIface) ∨ (isConst x || isConst y) = true) (w : World) :
    (eqGuard op t x y a b).run P w = .ok () w := by
  rw [eqGuard_key t x y a b op hop]
  split
  · rcases h2 with h2 | h2
    · exact (h2 ⟨rfl, rfl⟩).elim
    · rw [if_pos (const_or x y h2)]; rfl
  · exact (h1 _ _ ⟨rfl, rfl⟩).elim
  · rfl

theorem eqGuard_other {op : BinOp} {t : TypeId} {x y : Operand} {a b : Value} (h : op ≠ .eql) (k : op ≠ .neq) (w : World) : (eqGuard op t x y a b).run P w = .ok () w := by
  cases op <;> first | rfl | exact (h rfl).elim | exact (k rfl).elim

/-- What 'ceq' tells is of no two aggregates, and of no two nil interfaces. -/
theorem ceq_shape {d : TypeDesc} {x y x' y' : Value} {b : Bool} (h : ceq d x y = some b) (hx : VRel ρ x x') (hy : VRel ρ y y') :
    (∀ u v, ¬ (x' = .agg u ∧ y' = .agg v)) ∧ ¬ (x' = .nilIface ∧ y' = .nilIface) := by
  unfold ceq at h
  split at h <;> first | (cases h; done) | skip
  all_goals
    cases hx <;> cases hy <;> exact ⟨fun u v h => by simp at h, fun h => by simp at h⟩

/-- and of what the model's other arms do not take. -/
theorem ceq_binOp {d : TypeDesc} {t : TypeId} {x y x' y' : Value} {b : Bool} (h : ceq d x y = some b) (hx : VRel ρ x x') (hy : VRel ρ y y') :
    binOp .eql t x' y' = (do pure (.bool (← Op.equal t x' y'))) ∧ binOp .neq t x' y' = (do pure (.bool (!(← Op.equal t x' y')))) := by
  unfold ceq at h
  split at h <;> first | (cases h; done) | skip
  all_goals
    cases hx <;> cases hy <;> exact ⟨rfl, rfl⟩

theorem equalIn_nil {t : TypeId} {m : Array (String × TypeId)} (ht : P.underlying t = some (.interface m)) (n : Nat) (w : World) : (Op.equalIn (n + 1) t .nilIface .nilIface).run P w = .ok true w := by
  rw [Op.equalIn]
  simp only [Sem.run_bind, run_underlying' ht, Result.andThen_ok, Sem.run_pure]
theorem binOp_nil (t : TypeId) : binOp .eql t .nilIface .nilIface = (do pure (.bool (← Op.equal t .nilIface .nilIface))) ∧ binOp .neq t .nilIface .nilIface = (do pure (.bool (!(← Op.equal t .nilIface .nilIface)))) := ⟨rfl, rfl⟩

theorem cbin_sound {op : BinOp} {t : TypeId} {x y : Operand} {vx vy vx' vy' v : Value} (h : cbin P op t (isConst x || isConst y) vx vy = some v) (hx : VRel ρ vx vx') (hy : VRel ρ vy vy') (w : World) :
    ∃ v', (do eqGuard op t x y vx' vy'; binOp op t vx' vy' : Sem Value).run P w = .ok v' w ∧ VRel ρ v v' := by
  unfold cbin at h
  split at h
  · rw [cond_eq_ite] at h
    split at h
    · cases h
    · rename_i hb
      cases h
      cases hx; cases hy
      simp only [decide_eq_true_eq] at hb
      exact ⟨_, by simp only [Sem.run_bind, eqGuard_other (op := .shl) (by simp) (by simp), Result.andThen_ok, binOp, Op.shift, hb, if_false, Sem.run_pure], .int _ _⟩
  · rw [cond_eq_ite] at h
    split at h
    · cases h
    · rename_i hb
      cases h
      cases hx; cases hy
      simp only [decide_eq_true_eq] at hb
      exact ⟨_, by simp only [Sem.run_bind, eqGuard_other (op := .shr) (by simp) (by simp), Result.andThen_ok, binOp, Op.shift, hb, if_false, Sem.run_pure], .int _ _⟩
  · rename_i k a k' b h1 h2
    rw [cond_eq_ite] at h
    split at h
    · rename_i hk
      have hk : k = k' := by simpa using hk
      subst hk
      cases hx; cases hy
      obtain ⟨hr, hv⟩ := cint_sound (P := P) (ρ := ρ) (t := t) h w
      refine ⟨v, ?_, hv⟩
      have hg : (eqGuard op t x y (.int k a) (.int k b)).run P w = .ok () w := by
        by_cases e1 : op = .eql
        · exact eqGuard_run (.inl e1) (fun u v h => by simp at h) (.inl fun h => by simp at h) w
        · by_cases e2 : op = .neq
          · exact eqGuard_run (.inr e2) (fun u v h => by simp at h) (.inl fun h => by simp at h) w
          · exact eqGuard_other e1 e2 w
      simp only [Sem.run_bind, hg, Result.andThen_ok, hr]
    · cases h
  · split at h
    · rename_i m hm
      rw [cond_eq_ite] at h
      split at h
      · rename_i hc
        cases h
        cases hx; cases hy
        refine ⟨.bool true, ?_, .bool _⟩
        simp only [Sem.run_bind, eqGuard_run (a := .nilIface) (b := .nilIface) (.inl rfl) (fun u v h => by simp at h) (.inr hc), Result.andThen_ok, (binOp_nil t).1, equal_run, equalIn_nil hm, Sem.run_pure]
      · cases h
    · cases h
  · split at h
    · rename_i m hm
      rw [cond_eq_ite] at h
      split at h
      · rename_i hc
        cases h
        cases hx; cases hy
        refine ⟨.bool false, ?_, .bool _⟩
        simp only [Sem.run_bind, eqGuard_run (a := .nilIface) (b := .nilIface) (.inr rfl) (fun u v h => by simp at h) (.inr hc), Result.andThen_ok, (binOp_nil t).2, equal_run, equalIn_nil hm, Sem.run_pure]
        rfl
      · cases h
    · cases h
  · split at h
    · rename_i d hd
      rw [Option.map_eq_some_iff] at h
      obtain ⟨b, hb, rfl⟩ := h
      obtain ⟨s1, s2⟩ := ceq_shape hb hx hy
      refine ⟨.bool b, ?_, .bool _⟩
      simp only [Sem.run_bind, eqGuard_run (.inl rfl) s1 (.inl s2), Result.andThen_ok, (ceq_binOp (t := t) hb hx hy).1, equal_run, ceq_sound hd hb hx hy, Sem.run_pure]
    · cases h
  · split at h
    · rename_i d hd
      rw [Option.map_eq_some_iff] at h
      obtain ⟨b, hb, rfl⟩ := h
      obtain ⟨s1, s2⟩ := ceq_shape hb hx hy
      refine ⟨.bool (!b), ?_, .bool _⟩
      simp only [Sem.run_bind, eqGuard_run (.inr rfl) s1 (.inl s2), Result.andThen_ok, (ceq_binOp (t := t) hb hx hy).2, equal_run, ceq_sound hd hb hx hy, Sem.run_pure]
    · cases h
  · cases h

theorem op_binOp {op : BinOp} {t t2 : TypeId} {x y : Operand} (ho : o.op = .binOp op t x y t2) (h : cop P o e W = some outs) (hw : WRel P w0 ρ W w) (hx : VRel ρ (e x) (e' x)) (hy : VRel ρ (e y) (e' y)) :
    OpSound P w0 ρ W ((execOp e' o).run P w) outs := by
  simp only [cop, ho] at h
  obtain ⟨v, hv, rfl⟩ := vmatch h
  obtain ⟨v', hr, hv'⟩ := cbin_sound hv hx hy w
  refine .value hw ?_ hv'
  simp only [execOp, ho]
  exact exec_v hr

end
end Go.Ce
