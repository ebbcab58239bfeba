/- The canonical machine for closed runs: activations; regions in the order in which they stand. -/
import Derived.Test.YtcjjhebocgbbdaaGreatCn
set_option linter.unusedSectionVars false
set_option linter.unusedVariables false
set_option linter.unusedSimpArgs false
namespace Go.Ce
open Go.RowKit (Below)

/-- Two lists, one by one. -/
inductive All2 {α β : Type} (R : α → β → Prop) : List α → List β → Prop
  | nil : All2 R [] []
  | cons {x : α} {y : β} {xs : List α} {ys : List β} : R x y → All2 R xs ys → All2 R (x :: xs) (y :: ys)

def CAct.at (a : CAct) (i : Nat) : Value := (a.t.get i).getD undef

/-- Activations in relation. -/
structure AR (ρ : Ren) (a : CAct) (a' : Act) : Prop where
  tmps : ∀ i, VRel ρ (a.at i) (a'.tmps.getD i undef)
  size : a'.tmps.size = a.nt
  defers : All2 (DRel ρ) a.defers a'.defers

theorem forall₂_mono {α β : Type} {R S : α → β → Prop} (h : ∀ a b, R a b → S a b) {l : List α} {m : List β} (k : All2 R l m) : All2 S l m := by
  induction k with
  | nil => exact .nil
  | cons hx _ ih => exact .cons (h _ _ hx) ih

theorem AR.mono {ρ ρ' : Ren} {a : CAct} {a' : Act} (h : AR ρ a a') (e : Ext ρ ρ') : AR ρ' a a' :=
  ⟨fun i => (h.tmps i).mono e, h.size, forall₂_mono (fun _ _ x => x.mono e) h.defers⟩

theorem CAct.eval_tmp (a : CAct) (t : Tmp) : a.eval (.tmp t) = a.at t := by
  simp only [CAct.eval, CAct.at]
  cases a.t.get t <;> rfl

theorem AR.eval {ρ : Ren} {a : CAct} {a' : Act} (h : AR ρ a a') (x : Operand) (hx : okOperand x = true) : VRel ρ (a.eval x) (a'.eval x) := by
  cases x with
  | tmp t => rw [CAct.eval_tmp]; exact h.tmps t
  | const v => exact .of_plain ρ 8 v hx
  | global g => cases hx
  | func f => exact .func (.func f) rfl (fun i hi => by simp at hi) rfl (fun i hi => by simp at hi)

theorem CAct.at_put (a : CAct) (d : Tmp) (v : Value) (i : Nat) : (a.put (some d) v).at i = if i = d then v else a.at i := by
  simp only [CAct.at, CAct.put, Tr.get_set]
  split <;> rfl

theorem AR.put {ρ : Ren} {a : CAct} {a' : Act} (h : AR ρ a a') {d : Option Tmp} (hd : ∀ t, d = some t → t < a.nt) {v v' : Value} (hv : VRel ρ v v') : AR ρ (a.put d v) (a'.put d v') := by
  cases d with
  | none => exact h
  | some d =>
    have hd := hd d rfl
    refine ⟨fun i => ?_, ?_, h.defers⟩
    · rw [CAct.at_put]
      simp only [Act.put, Array.getD_eq_getD_getElem?, Array.getElem?_setIfInBounds]
      by_cases e : i = d
      · subst e
        rw [if_pos rfl, if_pos rfl, if_pos (by rw [h.size]; exact hd)]; exact hv
      · rw [if_neg e, if_neg (Ne.symm e), ← Array.getD_eq_getD_getElem?]; exact h.tmps i
    · simp only [Act.put, Array.size_setIfInBounds]; exact h.size

theorem dstOk_spec {nt : Nat} {o : Oper} (h : dstOk nt o = true) : ∀ t, o.dst = some t → t < nt := by
  intro t ht
  unfold dstOk at h
  rw [ht] at h
  exact Nat.le_of_ble_eq_true h

theorem VRel.bool_inv {ρ : Ren} {v v' : Value} (h : VRel ρ v v') : (∃ b, v = .bool b ∧ v' = .bool b) ∨ ((∀ b, v ≠ .bool b) ∧ ∀ b, v' ≠ .bool b) := by
  cases h <;> first | exact .inl ⟨_, rfl, rfl⟩ | exact .inr ⟨by simp, by simp⟩

theorem yield_rel {ρ : Ren} {a : CAct} {a' : Act} (ops : Array Oper) (j : Nat) (h : ∀ d, (ops[j]?).bind (·.dst) = some d → VRel ρ (a.at d) (a'.tmps.getD d undef)) : yielded ops a'.tmps j = cyield ops a j := by
  unfold yielded cyield
  cases ho : ops[j]? with
  | none => rfl
  | some o =>
    cases hd : o.dst with
    | none => simp [hd]
    | some d =>
      simp only [Option.bind_some, hd]
      have hv := h d (by simp [ho, hd])
      simp only [CAct.at, Array.getD_eq_getD_getElem?] at hv
      cases hx : a.t.get d with
      | none =>
        rw [hx] at hv
        cases hy : a'.tmps[d]? with
        | none => rfl
        | some y =>
          rw [hy] at hv
          rcases hv.bool_inv with ⟨b, h1, _⟩ | ⟨_, h2⟩
          · simp [undef] at h1
          · cases y <;> first | rfl | exact (h2 _ rfl).elim
      | some x =>
        rw [hx] at hv
        simp only [Option.getD_some] at hv
        cases hy : a'.tmps[d]? with
        | none =>
          rw [hy] at hv
          rcases hv.bool_inv with ⟨b, _, h2⟩ | ⟨h1, _⟩
          · simp [undef] at h2
          · cases x <;> first | rfl | exact (h1 _ rfl).elim
        | some y =>
          rw [hy] at hv
          rcases hv.bool_inv with ⟨b, h1, h2⟩ | ⟨h1, h2⟩
          · simp only [Option.getD_some] at h2
            subst h1; subst h2; rfl
          · simp only [Option.getD_some] at h2
            cases x <;> first | exact (h1 _ rfl).elim | skip
            all_goals cases y <;> first | rfl | exact (h2 _ rfl).elim

theorem AR.yield {ρ : Ren} {a : CAct} {a' : Act} (h : AR ρ a a') (ops : Array Oper) (j : Nat) : yielded ops a'.tmps j = cyield ops a j := yield_rel ops j fun d _ => h.tmps d

theorem AR.wanted {ρ : Ren} {a : CAct} {a' : Act} (h : AR ρ a a') (ops : Array Oper) (o : Oper) : Region.wanted o (yielded ops a'.tmps) = cwanted ops o a := by
  unfold Region.wanted cwanted
  cases o.guard with
  | none => rfl
  | some p =>
    obtain ⟨j, want⟩ := p
    simp only [h.yield ops j]
    cases cyield ops a j <;> rfl

/-! ### Endings -/

structure PERel (ρ : Ren) (p p' : PanicEntry) : Prop where
  v : VRel ρ p.v p'.v
  r : p.recovered = p'.recovered
  g : p.goexit = p'.goexit
abbrev ChRel (ρ : Ren) (c c' : List PanicEntry) : Prop := All2 (PERel ρ) c c'
theorem ChRel.mono {ρ ρ' : Ren} {c c' : List PanicEntry} (h : ChRel ρ c c') (e : Ext ρ ρ') : ChRel ρ' c c' := forall₂_mono (fun _ _ x => ⟨x.v.mono e, x.r, x.g⟩) h

inductive XRel (ρ : Ren) : Exit → Exit → Prop
  | normal : XRel ρ .normal .normal
  | exit (id : Nat) : XRel ρ (.exit id) (.exit id)
  | ret : XRel ρ .ret .ret
  | panic {c c' : List PanicEntry} : ChRel ρ c c' → XRel ρ (.panic c) (.panic c')
theorem XRel.mono {ρ ρ' : Ren} {x x' : Exit} (h : XRel ρ x x') (e : Ext ρ ρ') : XRel ρ' x x' := by
  cases h with
  | normal => exact .normal
  | exit id => exact .exit id
  | ret => exact .ret
  | panic h => exact .panic (h.mono e)

inductive NRel (ρ : Ren) : Ending → Ending → Prop
  | returned {v v' : Value} : VRel ρ v v' → NRel ρ (.returned v) (.returned v')
  | panicked {c c' : List PanicEntry} : ChRel ρ c c' → NRel ρ (.panicked c) (.panicked c')

/-- What the outcomes of a piece of code say. -/
def COut (P : Program) (w0 : World) (ρ : Ren) (W : CW) (nt : Nat) (outs : List (Exit × CAct × CW)) : Exit → Act → World → Prop :=
  fun e' a' w' => ∃ e a W2 ρ2, (e, a, W2) ∈ outs ∧ Grow W ρ W2 ρ2 ∧ XRel ρ2 e e' ∧ AR ρ2 a a' ∧ WRel P w0 ρ2 W2 w' ∧ a.nt = nt
def EOut (P : Program) (w0 : World) (ρ : Ren) (W : CW) (outs : List (Ending × CW)) : Ending → World → Prop :=
  fun e' w' => ∃ e W2 ρ2, (e, W2) ∈ outs ∧ Grow W ρ W2 ρ2 ∧ NRel ρ2 e e' ∧ WRel P w0 ρ2 W2 w'

theorem COut.mono {P : Program} {w0 : World} {ρ ρ1 : Ren} {W W1 : CW} {nt : Nat} {m outs : List (Exit × CAct × CW)} {e' : Exit} {a' : Act} {w' : World} (h : COut P w0 ρ1 W1 nt m e' a' w')
    (hg : Grow W ρ W1 ρ1) (hs : ∀ x, x ∈ m → x ∈ outs) : COut P w0 ρ W nt outs e' a' w' :=
  let ⟨e, a, W2, ρ2, h1, h2, h3, h4, h5, h6⟩ := h
  ⟨e, a, W2, ρ2, hs _ h1, hg.trans h2, h3, h4, h5, h6⟩

def fenceOf : Option Nat → Fence
  | none => Fence.wide
  | some l => Fence.wide.inRound l
theorem fenceOf_fn (r : Option Nat) (f : FuncId) : (fenceOf r).fn f := by cases r <;> trivial
theorem fenceOf_round (r : Option Nat) : (fenceOf r).round = r := by cases r <;> rfl
theorem fenceOf_depth (r : Option Nat) : (fenceOf r).depth = none := by cases r <;> rfl
theorem callsIn_fence {r : Option Nat} {n : Nat} {P : Program} {f : FuncId} {args : Array Value} {w : World} {R : Ending → World → Prop} (h : CallsIn Fence.wide n P f args w R) : CallsIn (fenceOf r) n P f args w R := by
  cases r <;> exact h

/-- Every function that has a body is entered when it is called. -/
def EN (P : Program) : Prop := ∀ f fn, P.funcs[f]? = some fn → fn.body.isSome = true → ∀ args w, (callFunc f args).run P w = .ok (.enter f args) w

inductive RoRel (ρ : Ren) : Option Nat → Option Nat → Prop
  | none : RoRel ρ none none
  | some {l l' : Nat} : BRel ρ l l' → RoRel ρ (some l) (some l')

/-- What is known of the functions that the machine walks with. -/
structure RS (P : Program) (w0 : World) (cok : Nat → Bool → Code → Bool) (R : CRec) : Prop where
  code : ∀ {ro ro' : Option Nat} {fn : FuncId} {c : Code} {a : CAct} {W : CW} {outs : List (Exit × CAct × CW)} {ρ : Ren} {w : World} {a' : Act}, R.code ro fn c a W = some outs → RoRel ρ ro ro' → AR ρ a a' → WRel P w0 ρ W w →
    cok a.nt ro.isSome c = true → ∀ n, c.wpIn (fenceOf ro') n P (COut P w0 ρ W a.nt outs) a' w
  call : ∀ {f : FuncId} {args : List Value} {W : CW} {outs : List (Ending × CW)} {ρ : Ren} {w : World} {args' : Array Value}, R.call f args W = some outs → LRel ρ args args'.toList → WRel P w0 ρ W w →
    (callFunc f args').run P w = .ok (.enter f args') w ∧ ∀ n, CallsIn Fence.wide n P f args' w (EOut P w0 ρ W outs)
  round : ∀ {l l' : Nat} {args : List Value} {W : CW} {outs : List (Ending × CW)} {ρ : Ren} {w : World} {args' : Array Value}, R.round l args W = some outs → BRel ρ l l' → LRel ρ args args'.toList → WRel P w0 ρ W w →
    ∃ f t as bd, (Instr.yield l' args').run P w = .ok (.round l' f t as bd) w ∧ ∀ (r : Option Nat) n, RoundIn (fenceOf r) n P l' f t as bd w (EOut P w0 ρ W outs)

theorem bindL_mem {α β : Type} {f : α → Option (List β)} : ∀ {l : List α} {r : List β}, bindL f l = some r → ∀ x, x ∈ l → ∃ m, f x = some m ∧ ∀ y, y ∈ m → y ∈ r
  | [], r, _, x, hx => by cases hx
  | z :: l, r, h, x, hx => by
    simp only [bindL] at h
    cases hz : f z with
    | none => rw [hz] at h; cases h
    | some lz =>
      rw [hz] at h
      cases hl : bindL f l with
      | none => rw [hl] at h; cases h
      | some ll =>
        rw [hl] at h
        cases h
        rcases List.mem_cons.1 hx with rfl | hx
        · exact ⟨lz, hz, fun y hy => by simp [hy]⟩
        · obtain ⟨m, hm, hs⟩ := bindL_mem hl x hx
          exact ⟨m, hm, fun y hy => by simp [hs y hy]⟩
theorem bindO_some {α β : Type} {o : Option (List α)} {f : α → Option (List β)} {r : List β} (h : bindO o f = some r) : ∃ l, o = some l ∧ ∀ x, x ∈ l → ∃ m, f x = some m ∧ ∀ y, y ∈ m → y ∈ r := by
  cases o with
  | none => cases h
  | some l => exact ⟨l, rfl, bindL_mem h⟩

section
variable {P : Program} {w0 : World} {cok : Nat → Bool → Code → Bool} {R : CRec}

/-- One operation, out of its outcomes. -/
theorem oper_wpIn {ρ : Ren} {W : CW} {o : Oper} {a' : Act} {w : World} {outs : List (CNext × CW)} {ro' : Option Nat} {n : Nat} {K : Act → World → Prop} {Q : Exit → Act → World → Prop} (hR : RS P w0 cok R)
    (h : OpSound P w0 ρ W ((execOp a'.eval o).run P w) outs) (hro : ro' = none ∨ ∀ c, o.op ≠ .defer c)
    (hv : ∀ {v v' : Value} {W1 : CW} {ρ1 : Ren} {w1 : World}, (CNext.value v, W1) ∈ outs → Grow W ρ W1 ρ1 → VRel ρ1 v v' → WRel P w0 ρ1 W1 w1 → K (a'.put o.dst v') w1)
    (hs : ∀ {W1 : CW} {ρ1 : Ren} {w1 : World}, (CNext.skip, W1) ∈ outs → Grow W ρ W1 ρ1 → WRel P w0 ρ1 W1 w1 → K (a'.put o.dst undef) w1)
    (hd : ∀ {d d' : Deferred} {W1 : CW} {ρ1 : Ren} {w1 : World}, (CNext.defer d, W1) ∈ outs → Grow W ρ W1 ρ1 → DRel ρ1 d d' → WRel P w0 ρ1 W1 w1 → K ({ a' with defers := d' :: a'.defers }.put o.dst undef) w1)
    (he : ∀ {f : FuncId} {args : List Value} {W1 : CW}, (CNext.enter f args, W1) ∈ outs → ∃ m, R.call f args W1 = some m ∧ ∀ {ρ1 : Ren}, Grow W ρ W1 ρ1 → ∀ e2 w2, EOut P w0 ρ1 W1 m e2 w2 →
      (∀ v', e2 = .returned v' → K (a'.put o.dst v') w2) ∧ ∀ c', e2 = .panicked c' → Q (.panic c') a' w2)
    (hr : ∀ {l : Nat} {args : List Value} {W1 : CW}, (CNext.round l args, W1) ∈ outs → ∃ m, R.round l args W1 = some m ∧ ∀ {ρ1 : Ren}, Grow W ρ W1 ρ1 → ∀ e2 w2, EOut P w0 ρ1 W1 m e2 w2 →
      (∀ v', e2 = .returned v' → K (a'.put o.dst v') w2) ∧ ∀ c', e2 = .panicked c' → Q (.panic c') a' w2)
    (hrec : ∀ {W1 : CW}, (CNext.recover, W1) ∉ outs)
    (hp : ∀ {v v' : Value} {W1 : CW} {ρ1 : Ren} {w1 : World}, (CNext.panic v, W1) ∈ outs → Grow W ρ W1 ρ1 → VRel ρ1 v v' → WRel P w0 ρ1 W1 w1 → Q (.panic [{ v := v', recovered := false }]) a' w1) :
    o.wpIn (fenceOf ro') n P a' w K Q := by
  refine ⟨fun f _ => fenceOf_fn _ f, ?_⟩
  have hsem : o.semAt (fenceOf ro').round a'.eval = execOp a'.eval o := by
    rw [fenceOf_round]
    rcases hro with rfl | hro
    · rfl
    · exact Oper.semAt_eq _ _ _ hro
  rw [hsem]
  have hdep : (fenceOf ro').depth.isSome = true → 1 ≤ n := by rw [fenceOf_depth]; simp
  obtain ⟨n0, W1, ρ1, hm, hg, hn⟩ := h
  cases hn with
  | value hr hv' hw' => rw [hr]; exact hv hm hg hv' hw'
  | skip hr hw' => rw [hr]; exact hs hm hg hw'
  | @enter f args args' w' hr ha hw' =>
    rw [hr]
    obtain ⟨m, hm2, hk⟩ := he hm
    obtain ⟨h1, h2⟩ := hR.call hm2 ha hw'
    rw [h1]
    refine ⟨hdep, callsIn_fence ((h2 (n - 1)).mono fun e2 w2 hE => ?_)⟩
    have := hk hg e2 w2 hE
    obtain ⟨e, W2, ρ2, _, _, hN, _⟩ := hE
    cases hN with
    | returned _ => exact this.1 _ rfl
    | panicked _ => exact this.2 _ rfl
  | @round l l' args args' w' hr' hb ha hw' =>
    rw [hr']
    obtain ⟨m, hm2, hk⟩ := hr hm
    obtain ⟨f, t, as, bd, h1, h2⟩ := hR.round hm2 hb ha hw'
    rw [h1]
    refine ⟨hdep, (h2 ro' (n - 1)).mono fun e2 w2 hE => ?_⟩
    have := hk hg e2 w2 hE
    obtain ⟨e, W2, ρ2, _, _, hN, _⟩ := hE
    cases hN with
    | returned _ => exact this.1 _ rfl
    | panicked _ => exact this.2 _ rfl
  | defer hr hd' hw' => rw [hr]; exact hd hm hg hd' hw'
  | recover _ _ => exact (hrec hm).elim
  | panic hr hv' hw' => rw [hr]; exact hp hm hg hv' hw'

theorem CAct.put_nt (a : CAct) (d : Option Tmp) (v : Value) : (a.put d v).nt = a.nt := by cases d <;> rfl
theorem CAct.put_defers (a : CAct) (d : Option Tmp) (v : Value) : (a.put d v).defers = a.defers := by cases d <;> rfl

theorem evOps_sound (hz : ZP P) (hR : RS P w0 cok R) {ops : Array Oper} {ro' : Option Nat} {n : Nat} : ∀ (rest : List Oper) (i : Nat) (a : CAct) (W : CW) (outs : List (Exit × CAct × CW)) (ρ : Ren) (a' : Act) (w : World) (Q : Exit → Act → World → Prop),
    ops.toList.drop i = rest → evOps P R ops rest a W = some outs → opsOk a.nt ro'.isSome rest = true → AR ρ a a' → WRel P w0 ρ W w → (∀ e a2 w2, COut P w0 ρ W a.nt outs e a2 w2 → Q e a2 w2) →
    wpOpsIn (fenceOf ro') n P ops Q (List.range' i rest.length) a' w := by
  intro rest
  induction rest with
  | nil =>
    intro i a W outs ρ a' w Q _ h _ ha hw hQ
    simp only [evOps, Option.some.injEq] at h
    subst h
    exact hQ _ _ _ ⟨_, _, _, ρ, List.mem_singleton.2 rfl, .refl _, .normal, ha, hw, rfl⟩
  | cons o rest ih =>
    intro i a W outs ρ a' w Q hdrop h hok ha hw hQ
    have ho : ops[i]? = some o := by
      have : ops.toList[i]? = some o := by
        have := congrArg (·[0]?) hdrop
        simpa [List.getElem?_drop] using this
      simpa using this
    have hdrop' : ops.toList.drop (i + 1) = rest := by
      have := congrArg List.tail hdrop
      simpa using this
    simp only [opsOk, List.all_cons, Bool.and_eq_true] at hok
    obtain ⟨⟨⟨hok1, hok2⟩, hok3⟩, hokr⟩ := hok
    have hokr : ∀ {nt : Nat}, nt = a.nt → opsOk nt ro'.isSome rest = true := fun e => by subst e; exact hokr
    have hd := dstOk_spec hok2
    simp only [List.length_cons, List.range'_succ, wpOpsIn, ho]
    rw [ha.wanted ops o]
    rw [evOps] at h
    cases hwt : cwanted ops o a with
    | false =>
      rw [hwt] at h
      simp only at h
      rw [if_neg (by simp)]
      refine ⟨fun f _ => fenceOf_fn _ f, ?_⟩
      refine ih (i + 1) _ _ _ ρ _ _ Q hdrop' h (hokr (CAct.put_nt _ _ _)) (ha.put hd (.undef _)) hw fun e a2 w2 hc => hQ e a2 w2 ?_
      rwa [CAct.put_nt] at hc
    | true =>
      rw [hwt] at h
      simp only at h
      rw [if_pos rfl]
      obtain ⟨l, hl, hall⟩ := bindO_some h
      have hS := op_sound (o := o) hz hok1 (e := a.eval) (e' := a'.eval) (fun _ => rfl) (fun x _ hx => ha.eval x hx) hw hl
      refine oper_wpIn hR hS ?_ ?_ ?_ ?_ ?_ ?_ ?_ ?_
      · simp only [Bool.or_eq_true, Bool.not_eq_true'] at hok3
        rcases hok3 with h1 | h1
        · left; cases ro' with
          | none => rfl
          | some _ => cases h1
        · right; intro c hc; unfold notDefer at h1; rw [hc] at h1; cases h1
      · intro v v' W1 ρ1 w1 hm hg hv hw1
        obtain ⟨m, hm2, hsub⟩ := hall _ hm
        refine ih (i + 1) _ _ _ ρ1 _ _ Q hdrop' hm2 (hokr (CAct.put_nt _ _ _)) ((ha.mono hg.1).put hd hv) hw1 fun e a2 w2 hc => hQ e a2 w2 (COut.mono ?_ hg hsub)
        rwa [CAct.put_nt] at hc
      · intro W1 ρ1 w1 hm hg hw1
        obtain ⟨m, hm2, hsub⟩ := hall _ hm
        refine ih (i + 1) _ _ _ ρ1 _ _ Q hdrop' hm2 (hokr (CAct.put_nt _ _ _)) ((ha.mono hg.1).put hd (.undef _)) hw1 fun e a2 w2 hc => hQ e a2 w2 (COut.mono ?_ hg hsub)
        rwa [CAct.put_nt] at hc
      · intro d d' W1 ρ1 w1 hm hg hdr hw1
        obtain ⟨m, hm2, hsub⟩ := hall _ hm
        have h1 := ha.mono hg.1
        have hA : AR ρ1 { a with defers := d :: a.defers } { a' with defers := d' :: a'.defers } := ⟨h1.tmps, h1.size, .cons hdr h1.defers⟩
        refine ih (i + 1) _ _ _ ρ1 _ _ Q hdrop' hm2 (hokr (CAct.put_nt _ _ _)) (hA.put hd (.undef _)) hw1 fun e a2 w2 hc => hQ e a2 w2 (COut.mono ?_ hg hsub)
        rwa [CAct.put_nt] at hc
      · intro f args W1 hm
        obtain ⟨m, hm2, hsub⟩ := hall _ hm
        obtain ⟨m3, hm3, hsub3⟩ := bindO_some hm2
        refine ⟨m3, hm3, fun {ρ1} hg e2 w2 hE => ?_⟩
        obtain ⟨e, W2, ρ2, hmem, hg2, hN, hw2⟩ := hE
        obtain ⟨m4, hm4, hsub4⟩ := hsub3 _ hmem
        refine ⟨fun v' he => ?_, fun c' he => ?_⟩
        · subst he
          cases hN with
          | returned hv =>
            refine ih (i + 1) _ _ _ ρ2 _ _ Q hdrop' hm4 (hokr (CAct.put_nt _ _ _)) ((ha.mono (hg.trans hg2).1).put hd hv) hw2 fun e a2 w2 hc => hQ e a2 w2 (COut.mono ?_ (hg.trans hg2) fun x hx => hsub x (hsub4 x hx))
            rwa [CAct.put_nt] at hc
        · subst he
          cases hN with
          | @panicked c _ hch =>
            simp only [Option.some.injEq] at hm4
            subst hm4
            exact hQ _ _ _ ⟨_, _, _, ρ2, hsub _ (hsub4 _ (List.mem_singleton.2 rfl)), hg.trans hg2, .panic hch, ha.mono (hg.trans hg2).1, hw2, rfl⟩
      · intro f args W1 hm
        obtain ⟨m, hm2, hsub⟩ := hall _ hm
        obtain ⟨m3, hm3, hsub3⟩ := bindO_some hm2
        refine ⟨m3, hm3, fun {ρ1} hg e2 w2 hE => ?_⟩
        obtain ⟨e, W2, ρ2, hmem, hg2, hN, hw2⟩ := hE
        obtain ⟨m4, hm4, hsub4⟩ := hsub3 _ hmem
        refine ⟨fun v' he => ?_, fun c' he => ?_⟩
        · subst he
          cases hN with
          | returned hv =>
            refine ih (i + 1) _ _ _ ρ2 _ _ Q hdrop' hm4 (hokr (CAct.put_nt _ _ _)) ((ha.mono (hg.trans hg2).1).put hd hv) hw2 fun e a2 w2 hc => hQ e a2 w2 (COut.mono ?_ (hg.trans hg2) fun x hx => hsub x (hsub4 x hx))
            rwa [CAct.put_nt] at hc
        · subst he
          cases hN with
          | @panicked c _ hch =>
            simp only [Option.some.injEq] at hm4
            subst hm4
            exact hQ _ _ _ ⟨_, _, _, ρ2, hsub _ (hsub4 _ (List.mem_singleton.2 rfl)), hg.trans hg2, .panic hch, ha.mono (hg.trans hg2).1, hw2, rfl⟩
      · intro W1 hm
        obtain ⟨m, hm2, _⟩ := hall _ hm
        cases hm2
      · intro v v' W1 ρ1 w1 hm hg hv hw1
        obtain ⟨m, hm2, hsub⟩ := hall _ hm
        simp only [Option.some.injEq] at hm2
        subst hm2
        exact hQ _ _ _ ⟨_, _, _, ρ1, hsub _ (List.mem_singleton.2 rfl), hg, .panic (.cons ⟨hv, rfl, rfl⟩ .nil), ha.mono hg.1, hw1, rfl⟩
end
end Go.Ce
