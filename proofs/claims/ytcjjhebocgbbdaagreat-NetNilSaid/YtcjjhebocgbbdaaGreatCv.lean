/- The canonical machine for closed runs: code. -/
import Derived.Test.YtcjjhebocgbbdaaGreatCu
import Derived.LoopNIn
import Derived.RangeFuncLeaves
set_option linter.unusedSectionVars false
set_option linter.unusedVariables false
set_option linter.unusedSimpArgs false
namespace Go.Ce
open Go.RowKit (Below)

/-- Modes in relation. -/
inductive URel (ρ : Ren) : FrameMode → FrameMode → Prop
  | returning : URel ρ .returning .returning
  | panicking {c c' : List PanicEntry} : ChRel ρ c c' → URel ρ (.panicking c) (.panicking c')
theorem URel.mono {ρ ρ' : Ren} {u u' : FrameMode} (h : URel ρ u u') (e : Ext ρ ρ') : URel ρ' u u' := by
  cases h with
  | returning => exact .returning
  | panicking h => exact .panicking (h.mono e)

def DOut (P : Program) (w0 : World) (ρ : Ren) (W : CW) (outs : List (Ending × FrameMode × CW)) : Ending → FrameMode → World → Prop :=
  fun e' u' w' => ∃ e u W2 ρ2, (e, u, W2) ∈ outs ∧ Grow W ρ W2 ρ2 ∧ NRel ρ2 e e' ∧ URel ρ2 u u' ∧ WRel P w0 ρ2 W2 w'

/-- All that is known of the functions that the machine walks with. -/
structure RS2 (P : Program) (w0 : World) (k : Nat) (R : CRec) : Prop extends RS P w0 (codeOk P) R where
  loop : ∀ {ro ro' : Option Nat} {fn : FuncId} {b : Code} {a : CAct} {W : CW} {outs : List (Exit × CAct × CW)} {ρ : Ren} {w : World} {a' : Act}, R.code ro fn (.loop b) a W = some outs → RoRel ρ ro ro' → AR ρ a a' → WRel P w0 ρ W w →
    codeOk P a.nt ro.isSome b = true → ∀ n (Q : Exit → Act → World → Prop), (∀ e a2 w2, COut P w0 ρ W a.nt outs e a2 w2 → Q e a2 w2) → Code.roundsIn (fenceOf ro') n P b Q k a' w
  dcall : ∀ {f : FuncId} {args : List Value} {u u' : FrameMode} {W : CW} {outs : List (Ending × FrameMode × CW)} {ρ : Ren} {w : World} {args' : Array Value}, R.dcall f args u W = some outs → LRel ρ args args'.toList → URel ρ u u' → WRel P w0 ρ W w →
    (callFunc f args').run P w = .ok (.enter f args') w ∧ ∀ n, CallsDIn Fence.wide n P f args' u' w (DOut P w0 ρ W outs)

section
variable {P : Program} {w0 : World} {k : Nat} {R : CRec}

theorem RoRel.isSome {ρ : Ren} {ro ro' : Option Nat} (h : RoRel ρ ro ro') : ro'.isSome = ro.isSome := by cases h <;> rfl
theorem RoRel.mono {ρ ρ' : Ren} {ro ro' : Option Nat} (h : RoRel ρ ro ro') (e : Ext ρ ρ') : RoRel ρ' ro ro' := by
  cases h with
  | none => exact .none
  | some h => exact .some (h.mono e)

/-- One piece of code, then the rest. -/
theorem seq_sound (hS : RS2 P w0 k R) {ro ro' : Option Nat} {fn : FuncId} {x : Code} {a : CAct} {W : CW} {outs : List (Exit × CAct × CW)} {ρ : Ren} {w : World} {a' : Act} {f : CAct → CW → Outs} {n : Nat} {K : Act → World → Prop} {Q : Exit → Act → World → Prop}
    (h : seqO (R.code ro fn x a W) f = some outs) (hr : RoRel ρ ro ro') (ha : AR ρ a a') (hw : WRel P w0 ρ W w) (hok : codeOk P a.nt ro.isSome x = true) (hQ : ∀ e a2 w2, COut P w0 ρ W a.nt outs e a2 w2 → Q e a2 w2)
    (hK : ∀ {a1 W1 m ρ1 a1' w1}, f a1 W1 = some m → RoRel ρ1 ro ro' → AR ρ1 a1 a1' → WRel P w0 ρ1 W1 w1 → a1.nt = a.nt → (∀ e a2 w2, COut P w0 ρ1 W1 a1.nt m e a2 w2 → Q e a2 w2) → K a1' w1) :
    x.wpIn (fenceOf ro') n P (Exit.then K Q) a' w := by
  obtain ⟨l, hl, hall⟩ := bindO_some h
  refine wpIn_mono (hS.code hl hr ha hw hok n) fun e' a2 w2 hc => ?_
  obtain ⟨e, a1, W1, ρ1, hm, hg, hx, ha1, hw1, hnt⟩ := hc
  obtain ⟨m, hm2, hsub⟩ := hall _ hm
  have other : (∀ a2, e' ≠ .normal → m = [(e, a1, W1)] → Q e' a2 w2) ∨ True := .inr trivial
  cases hx with
  | normal =>
    exact hK hm2 (hr.mono hg.1) ha1 hw1 hnt fun e a2 w2 hc => hQ e a2 w2 (COut.mono (by rw [← hnt]; exact hc) hg hsub)
  | exit id =>
    cases hm2
    exact hQ _ _ _ ⟨_, a1, W1, ρ1, hsub _ (List.mem_singleton.2 rfl), hg, .exit id, ha1, hw1, hnt⟩
  | ret =>
    cases hm2
    exact hQ _ _ _ ⟨_, a1, W1, ρ1, hsub _ (List.mem_singleton.2 rfl), hg, .ret, ha1, hw1, hnt⟩
  | panic hch =>
    cases hm2
    exact hQ _ _ _ ⟨_, a1, W1, ρ1, hsub _ (List.mem_singleton.2 rfl), hg, .panic hch, ha1, hw1, hnt⟩

theorem loop_sound (hS : RS2 P w0 k R) {ro ro' : Option Nat} {fn : FuncId} {b : Code} {a : CAct} {W : CW} {outs : List (Exit × CAct × CW)} {ρ : Ren} {w : World} {a' : Act} {n : Nat} {Q : Exit → Act → World → Prop}
    (h : seqO (R.code ro fn b a W) (R.code ro fn (.loop b)) = some outs) (hr : RoRel ρ ro ro') (ha : AR ρ a a') (hw : WRel P w0 ρ W w) (hok : codeOk P a.nt ro.isSome b = true) (hQ : ∀ e a2 w2, COut P w0 ρ W a.nt outs e a2 w2 → Q e a2 w2) :
    Code.roundsIn (fenceOf ro') n P b Q (k + 1) a' w :=
  seq_sound hS h hr ha hw hok hQ fun {a1 W1 m ρ1 a1' w1} h1 hr1 ha1 hw1 hnt hQ1 => hS.loop h1 hr1 ha1 hw1 (by rw [hnt]; exact hok) n Q hQ1

theorem run_endLoop {l : Nat} {r : Loop} {w : World} (h : w.heap[l]? = some (.loop r)) (hb : r.state ≠ .busy) : (Instr.endLoop l).run P w = .ok r.pending { w with heap := w.heap.setIfInBounds l (.loop { r with state := .exhausted }) } := by
  have hb : (r.state == .busy) = false := by cases hs : r.state <;> simp_all
  simp only [Instr.endLoop, Instr.getLoop, Sem.run_bind, run_getObj' h (by simp), Result.andThen_ok, Sem.run_pure, hb, Bool.false_eq_true, if_false, run_setObj' h (by simp)]

theorem rangeFunc_sound (hS : RS2 P w0 k R) {ro ro' : Option Nat} {fn : FuncId} {f : Operand} {ps : Array Tmp} {as bd : Code} {a : CAct} {W : CW} {outs : List (Exit × CAct × CW)} {ρ : Ren} {w : World} {a' : Act} {n : Nat} {Q : Exit → Act → World → Prop}
    (h : stepCode P R ro fn (.rangeFunc f ps as bd) a W = some outs) (hr : RoRel ρ ro ro') (ha : AR ρ a a') (hw : WRel P w0 ρ W w) (hok : codeOk P a.nt ro.isSome (.rangeFunc f ps as bd) = true) (hQ : ∀ e a2 w2, COut P w0 ρ W a.nt outs e a2 w2 → Q e a2 w2) :
    (Code.rangeFunc f ps as bd).wpIn (fenceOf ro') n P Q a' w := by
  simp only [codeOk, Bool.and_eq_true] at hok
  obtain ⟨⟨⟨hok1, hok2⟩, hok3⟩, hok4⟩ := hok
  refine wpIn_rangeFunc fun fn' _ => ?_
  rw [fenceOf_round]
  simp only [stepCode] at h
  -- the record's surroundings
  have hpre : ∀ {dl : Nat} {mark : List Deferred} {W1 : CW}, around ro W = some (dl, mark, W1) →
      ∃ dl' mark' w1 ρ1, Grow W ρ W1 ρ1 ∧ WRel P w0 ρ1 W1 w1 ∧ BRel ρ1 dl dl' ∧ All2 (DRel ρ1) mark mark' ∧
        (∀ o : Loop, (Instr.enterLoop fn' a'.tmps ps as bd ro').run P w = .ok (w1.heap.size, mark') { w1 with heap := w1.heap.push (.loop { state := .ready, pending := none, fn := fn', tmps := a'.tmps, params := ps, assign := as, body := bd, defers := dl' }) }) := by
    intro dl mark W1 hm
    unfold around at hm
    cases hr with
    | none =>
      simp only [Option.some.injEq, Prod.mk.injEq] at hm
      obtain ⟨rfl, rfl, rfl⟩ := hm
      obtain ⟨hg, hw1⟩ := hw.new (o := .deferred) (o' := .deferred (some [])) ⟨w.heap.size, 0, 0, 0, 0⟩ rfl .deferred
      refine ⟨w.heap.size, [{ target := .collected w.heap.size, args := #[] }], _, _, hg, hw1, ⟨⟨w.heap.size, 0, 0, 0, 0⟩, by simp, rfl⟩, .cons (.collected ⟨⟨w.heap.size, 0, 0, 0, 0⟩, by simp, rfl⟩) .nil, fun _ => ?_⟩
      simp only [Instr.enterLoop, Sem.run_bind, run_newObj, Result.andThen_ok, Sem.run_pure]
    | @some l l' hb =>
      simp only at hm
      split at hm
      · rename_i st pd f0 t nt ps0 as0 bd0 d hobj
        simp only [Option.some.injEq, Prod.mk.injEq] at hm
        obtain ⟨rfl, rfl, rfl⟩ := hm
        obtain ⟨x, hx, rfl⟩ := hb
        obtain ⟨o', ho', hrel⟩ := hw.obj hobj (by simp) hx rfl
        cases hrel with
        | @loop _ _ _ f0' _ t' _ _ _ _ d' h1 h2 h3 =>
          refine ⟨d', [], w, ρ, .refl _, hw, h2, .nil, fun _ => ?_⟩
          simp only [Instr.enterLoop, Instr.getLoop, Sem.run_bind, run_getObj' ho' (by simp), run_newObj, Result.andThen_ok, Sem.run_pure]
      · cases hm
  split at h
  · cases h
  rename_i dl mark W1 hm
  obtain ⟨dl', mark', w1, ρ1, hg1, hw1, hb1, hmk, henter⟩ := hpre hm
  have henter := henter { state := .ready, pending := none, fn := fn', tmps := a'.tmps, params := ps, assign := as, body := bd, defers := dl' }
  split at h
  rotate_left
  · cases h
  rename_i g args hcall
  obtain ⟨outs1, hcallR, hall⟩ := bindO_some h
  -- the record
  have ha1 := ha.mono hg1.1
  have hlsz : ρ1 W1.sz = none := by
    cases hq : ρ1 W1.sz with
    | none => rfl
    | some y => have := hw1.dom _ _ hq; omega
  obtain ⟨hg2, hw2⟩ := hw1.new (o := .loop .ready none fn a.t a.nt ps as bd dl) (o' := .loop { state := .ready, pending := none, fn := fn', tmps := a'.tmps, params := ps, assign := as, body := bd, defers := dl' }) ⟨w1.heap.size, 0, 0, 0, 0⟩ rfl (by
    have hext : Ext ρ1 (fun i => if i = W1.sz then some (⟨w1.heap.size, 0, 0, 0, 0⟩ : Info) else ρ1 i) := fun i y hy => by
      show (if i = W1.sz then _ else ρ1 i) = some y
      by_cases e : i = W1.sz
      · subst e; rw [hlsz] at hy; cases hy
      · rw [if_neg e]; exact hy
    have := ORel.loop (P := P) (ρ := fun i => if i = W1.sz then some (⟨w1.heap.size, 0, 0, 0, 0⟩ : Info) else ρ1 i) (x := ⟨w1.heap.size, 0, 0, 0, 0⟩) (st := .ready) (pd := none) (f := fn) (f' := fn') (t := a.t) (t' := a'.tmps) (ps := ps) (as := as) (bd := bd) (d := dl) (d' := dl') (fun i => (ha1.tmps i).mono hext) (hb1.mono hext) (by rw [ha.size]; exact ⟨hok2, hok3, hok4⟩)
    rw [ha.size] at this
    exact this)
  have hl2 : (fun i => if i = W1.sz then some (⟨w1.heap.size, 0, 0, 0, 0⟩ : Info) else ρ1 i) W1.sz = some ⟨w1.heap.size, 0, 0, 0, 0⟩ := by simp
  generalize (fun i => if i = W1.sz then some (⟨w1.heap.size, 0, 0, 0, 0⟩ : Info) else ρ1 i) = ρ2 at hg2 hw2 hl2
  generalize ({ w1 with heap := w1.heap.push (.loop { state := .ready, pending := none, fn := fn', tmps := a'.tmps, params := ps, assign := as, body := bd, defers := dl' }) } : World) = w2 at hw2 henter
  have hg02 := hg1.trans hg2
  -- the call
  unfold ccall at hcall
  split at hcall
  · rename_i fid first cap hfe
    simp only [Option.some.injEq, CNext.enter.injEq] at hcall
    obtain ⟨rfl, rfl⟩ := hcall
    have hfv := (ha.mono hg02.1).eval f hok1
    rw [hfe] at hfv
    generalize hcc : a'.eval f = vf at hfv
    cases hfv with
    | @func _ f' _ x' _ y' hfn h1 h2 h3 h4 =>
      cases hfn
      have hy : VRel ρ2 (.func (.yield W1.sz) #[] #[]) (.func (.yield w1.heap.size) #[] #[]) := .func (.yield ⟨_, hl2, rfl⟩) rfl (fun i hi => by simp at hi) rfl (fun i hi => by simp at hi)
      have hargs : LRel ρ2 (first.toList ++ [Value.func (.yield W1.sz) #[] #[]] ++ cap.toList) (x' ++ #[Value.func (.yield w1.heap.size) #[] #[]] ++ y').toList := by
        have e1 := LRel.arr.2 ⟨h1, h2⟩
        have e2 := LRel.arr.2 ⟨h3, h4⟩
        simpa using (e1.append (.cons hy (.nil _))).append e2
      obtain ⟨hen, hcalls⟩ := hS.call hcallR hargs hw2
      refine ⟨w1.heap.size, mark', w2, { target := .fn (.func fid) y', args := x' ++ #[Value.func (.yield w1.heap.size) #[] #[]] }, w2, fid, x' ++ #[Value.func (.yield w1.heap.size) #[] #[]] ++ y', w2, henter, ?_, fun _ _ => fenceOf_fn _ _, ?_, by rw [fenceOf_depth]; simp, ?_⟩
      · have em : #[Operand.const (Value.func (.yield w1.heap.size) #[] #[])].map a'.eval = #[Value.func (.yield w1.heap.size) #[] #[]] := by simp [Act.eval]
        simp only [resolve, rangeCall, hcc, Deferred.ofValue, Sem.run_pure, em]
      · simp only [invoke]; exact hen
      · refine callsIn_fence ((hcalls (n - 1)).mono fun e2 w3 hE => ?_)
        obtain ⟨e, W3, ρ3, hmem, hg3, hN, hw3⟩ := hE
        obtain ⟨m, hm2, hsub⟩ := hall _ hmem
        cases hN with
        | panicked _ => cases hm2
        | returned _ =>
          simp only at hm2
          split at hm2
          rotate_left
          · cases hm2
          rename_i st pd lf lt ln lp la lb ld hobj
          have hx3 : ρ3 W1.sz = some ⟨w1.heap.size, 0, 0, 0, 0⟩ := hg3.1 _ _ hl2
          obtain ⟨o', ho', hrel⟩ := hw3.obj hobj (by simp) hx3 rfl
          have hgt := hg02.trans hg3
          cases hrel with
          | @loop _ _ _ f0' _ t' _ _ _ _ d' k1 k2 k3 =>
            have hA : AR ρ3 { a with defers := mark ++ a.defers } { a' with defers := mark' ++ a'.defers } := by
              have h3 := ha.mono hgt.1
              refine ⟨h3.tmps, h3.size, ?_⟩
              have hmk3 : All2 (DRel ρ3) mark mark' := forall₂_mono (fun _ _ x => x.mono (hg2.trans hg3).1) hmk
              have key : ∀ {l l' : List Deferred}, All2 (DRel ρ3) l l' → All2 (DRel ρ3) (l ++ a.defers) (l' ++ a'.defers) := by
                intro l l' hl
                induction hl with
                | nil => exact h3.defers
                | cons hx _ ih => exact .cons hx ih
              exact key hmk3
            have hnb : st ≠ .busy := by
              intro e; subst e; cases hm2
            have hw4 := hw3.upd hobj rfl hx3 (ORel.loop (P := P) (st := .exhausted) (pd := pd) (f := lf) (f' := f0') k1 k2 k3)
            refine ⟨pd, _, run_endLoop ho' hnb, ?_⟩
            have hg4 : Grow W3 ρ3 (W3.upd W1.sz (.loop .exhausted pd lf lt t'.size lp la lb ld)) ρ3 := .refl _
            have finish : ∀ {e : Exit}, XRel ρ3 e e → (e, { a with defers := mark ++ a.defers }, W3.upd W1.sz (.loop .exhausted pd lf lt t'.size lp la lb ld)) ∈ m → Q e { a' with defers := mark' ++ a'.defers } { w3 with heap := w3.heap.setIfInBounds w1.heap.size (.loop { state := .exhausted, pending := pd, fn := f0', tmps := t', params := lp, assign := la, body := lb, defers := d' }) } := by
              intro e hx hmm
              exact hQ _ _ _ ⟨e, _, _, ρ3, hsub _ hmm, hgt.trans hg4, hx, hA, hw4, rfl⟩
            cases st with
            | busy => cases hm2
            | ready =>
              cases pd with
              | none => cases hm2; exact finish .normal (List.mem_singleton.2 rfl)
              | some c => cases c <;> first | (cases hm2; done) | skip
                          · cases hm2; exact wpIn_exit (finish (.exit _) (List.mem_singleton.2 rfl))
                          · cases hm2; exact wpIn_ret (finish .ret (List.mem_singleton.2 rfl))
            | done =>
              cases pd with
              | none => cases hm2; exact finish .normal (List.mem_singleton.2 rfl)
              | some c => cases c <;> first | (cases hm2; done) | skip
                          · cases hm2; exact wpIn_exit (finish (.exit _) (List.mem_singleton.2 rfl))
                          · cases hm2; exact wpIn_ret (finish .ret (List.mem_singleton.2 rfl))
            | exhausted =>
              cases pd with
              | none => cases hm2; exact finish .normal (List.mem_singleton.2 rfl)
              | some c => cases c <;> first | (cases hm2; done) | skip
                          · cases hm2; exact wpIn_exit (finish (.exit _) (List.mem_singleton.2 rfl))
                          · cases hm2; exact wpIn_ret (finish .ret (List.mem_singleton.2 rfl))
  · cases hcall
  · cases hcall
end
end Go.Ce
