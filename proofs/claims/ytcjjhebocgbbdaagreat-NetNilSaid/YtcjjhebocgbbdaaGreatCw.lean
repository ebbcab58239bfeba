/- The canonical machine for closed runs: code of every kind; rounds; what a function hands back. -/
import Derived.Test.YtcjjhebocgbbdaaGreatCv
set_option linter.unusedSectionVars false
set_option linter.unusedVariables false
set_option linter.unusedSimpArgs false
namespace Go.Ce
open Go.RowKit (Below)

section
variable {P : Program} {w0 : World} {k : Nat} {R : CRec}

def noGoto (Q : Exit → Act → World → Prop) : Exit → Act → World → Prop
  | .goto _, _, _ => False
  | e, a, w => Q e a w
theorem stepR_scope {b : Frame} {a : Act} {k : List Item} {cs : List Frame} {w : World} {c : Code} : step P (lone (b.atR a (.code (.scope c) :: k)) cs w) = .next (lone (b.atR a (.code c :: .inScope c :: k)) cs w) :=
  step_lone_go (by simp [stepG, stepG.exec, Frame.atR])
theorem stepR_inScope {b : Frame} {a : Act} {k : List Item} {cs : List Frame} {w : World} {c : Code} : step P (lone (b.atR a (.inScope c :: k)) cs w) = .next (lone (b.atR a k) cs w) :=
  step_lone_go (by simp [stepG, stepG.exec, Frame.atR])
theorem wpIn_scope {F : Fence} {n : Nat} {c : Code} {Q : Exit → Act → World → Prop} {a : Act} {w : World} (h : c.wpIn F n P (noGoto Q) a w) : (Code.scope c).wpIn F n P Q a w := by
  intro b k cs hro hb hr
  have h0 : (lone (b.atR a (.code (.scope c) :: k)) cs w).fenced P F := fenced_calm hb hr rfl
  obtain ⟨e, a₁, w₁, hq, harr⟩ := h b (.inScope c :: k) cs hro hb hr
  cases e with
  | normal => exact ⟨.normal, a₁, w₁, hq, .head h0 stepR_scope (StepsIn.trans harr (.one (fenced_calm hb hr rfl) stepR_inScope))⟩
  | exit id => exact ⟨.exit id, a₁, w₁, hq, fun k' hk => .head h0 stepR_scope (harr.1 k' (by simp [exitTo, hk])),
      fun hr' hk => let ⟨k₁, h1, h2⟩ := harr.2 hr' (by simp [exitTo, hk]); ⟨k₁, h1, .head h0 stepR_scope h2⟩⟩
  | goto l => exact hq.elim
  | ret => exact ⟨_, a₁, w₁, hq, .of_steps (.one h0 stepR_scope) harr⟩
  | panic ch => exact ⟨_, a₁, w₁, hq, .of_steps (.one h0 stepR_scope) harr⟩
  | outgrown => exact ⟨_, a₁, w₁, hq, .of_steps (.one h0 stepR_scope) harr⟩

theorem step_code (hz : ZP P) (hmix : P.follows .mixedOrders = true) (hS : RS2 P w0 k R) {ro ro' : Option Nat} {fn : FuncId} {c : Code} {a : CAct} {W : CW} {outs : List (Exit × CAct × CW)} {ρ : Ren} {w : World} {a' : Act} {n : Nat} {Q : Exit → Act → World → Prop}
    (h : stepCode P R ro fn c a W = some outs) (hr : RoRel ρ ro ro') (ha : AR ρ a a') (hw : WRel P w0 ρ W w) (hok : codeOk P a.nt ro.isSome c = true) (hQ : ∀ e a2 w2, COut P w0 ρ W a.nt outs e a2 w2 → Q e a2 w2) :
    c.wpIn (fenceOf ro') n P Q a' w := by
  have one : ∀ {e : Exit}, XRel ρ e e → outs = [(e, a, W)] → Q e a' w := fun {e} hx ho => hQ _ _ _ ⟨e, a, W, ρ, by rw [ho]; simp, .refl _, hx, ha, hw, rfl⟩
  cases c with
  | skip => cases h; exact wpIn_skip (one .normal rfl)
  | label l => cases h; exact wpIn_label (one .normal rfl)
  | exit id => cases h; exact wpIn_exit (one (.exit id) rfl)
  | ret => cases h; exact wpIn_ret (one .ret rfl)
  | region id ops d =>
    simp only [codeOk, Bool.and_eq_true, Bool.or_eq_true, Bool.not_eq_true'] at hok
    rw [← hr.isSome] at hok
    cases d with
    | false =>
      simp only [stepCode] at h
      refine wpIn_region ?_
      have := evOps_sound hz hS.toRS ops.toList 0 a W outs ρ a' w Q rfl h hok.1 ha hw hQ (n := n)
      rw [List.range_eq_range']
      simpa using this
    | true =>
      simp only [stepCode] at h
      exact evDraw_sound hz hS.toRS hmix h (hok.2.resolve_left (by simp)) hok.1 ha hw hQ
  | seq x y =>
    simp only [codeOk, Bool.and_eq_true] at hok
    simp only [stepCode] at h
    exact wpIn_seq (seq_sound hS h hr ha hw hok.1 hQ fun {a1 W1 m ρ1 a1' w1} h1 hr1 ha1 hw1 hnt hQ1 => wpIn_mono (hS.code h1 hr1 ha1 hw1 (by rw [hnt]; exact hok.2) n) hQ1)
  | cond c x y =>
    simp only [codeOk, Bool.and_eq_true] at hok
    simp only [stepCode] at h
    split at h
    · rename_i b hb
      have hv := ha.eval c hok.1
      rw [hb] at hv
      generalize hcc : a'.eval c = v at hv
      cases hv
      refine wpIn_cond hcc ?_
      cases b with
      | true => exact wpIn_mono (hS.code h hr ha hw hok.2.1 n) hQ
      | false => exact wpIn_mono (hS.code h hr ha hw hok.2.2 n) hQ
    · cases h
  | block id b =>
    simp only [codeOk] at hok
    simp only [stepCode] at h
    obtain ⟨l, hl, hall⟩ := bindO_some h
    refine wpIn_block (wpIn_mono (hS.code hl hr ha hw hok n) fun e' a2 w2 hc => ?_)
    obtain ⟨e, a1, W1, ρ1, hm, hg, hx, ha1, hw1, hnt⟩ := hc
    obtain ⟨m, hm2, hsub⟩ := hall _ hm
    cases hx with
    | normal => cases hm2; exact hQ _ _ _ ⟨_, a1, W1, ρ1, hsub _ (List.mem_singleton.2 rfl), hg, .normal, ha1, hw1, hnt⟩
    | exit id' =>
      simp only [cond_eq_ite] at hm2
      unfold Exit.inBlock
      split at hm2
      · rename_i hid
        have hid := Nat.eq_of_beq_eq_true hid
        cases hm2
        simp only [if_pos hid]
        exact hQ _ _ _ ⟨_, a1, W1, ρ1, hsub _ (List.mem_singleton.2 rfl), hg, .normal, ha1, hw1, hnt⟩
      · rename_i hid
        have hid : ¬ id' = id := by simpa using hid
        cases hm2
        simp only [if_neg hid]
        exact hQ _ _ _ ⟨_, a1, W1, ρ1, hsub _ (List.mem_singleton.2 rfl), hg, .exit id', ha1, hw1, hnt⟩
    | ret => cases hm2; exact hQ _ _ _ ⟨_, a1, W1, ρ1, hsub _ (List.mem_singleton.2 rfl), hg, .ret, ha1, hw1, hnt⟩
    | panic hch => cases hm2; exact hQ _ _ _ ⟨_, a1, W1, ρ1, hsub _ (List.mem_singleton.2 rfl), hg, .panic hch, ha1, hw1, hnt⟩
  | loop b =>
    simp only [codeOk] at hok
    simp only [stepCode] at h
    exact wpIn_loop_rounds (k + 1) (loop_sound hS h hr ha hw hok hQ)
  | rangeFunc f ps as bd => exact rangeFunc_sound hS h hr ha hw hok hQ
  | scope b =>
    simp only [codeOk] at hok
    simp only [stepCode] at h
    refine wpIn_scope (wpIn_mono (hS.code h hr ha hw hok n) fun e' a2 w2 hc => ?_)
    have := hQ _ _ _ hc
    obtain ⟨e, a1, W1, ρ1, hm, hg, hx, ha1, hw1, hnt⟩ := hc
    cases hx <;> exact this
  | goto l => simp [codeOk] at hok
  | refuse => simp [codeOk] at hok

theorem run_endRound {l : Nat} {r : Loop} {w : World} (h : w.heap[l]? = some (.loop r)) (j : Option Code) : (Instr.endRound l j).run P w = .ok (.bool j.isNone) { w with heap := w.heap.setIfInBounds l (.loop { r with state := if j.isNone then .ready else .done, pending := j }) } := by
  simp only [Instr.endRound, Instr.getLoop, Sem.run_bind, run_getObj' h (by simp), Result.andThen_ok, Sem.run_pure, run_setObj' h (by simp)]
theorem run_beginRound {l : Nat} {r : Loop} {w : World} (h : w.heap[l]? = some (.loop r)) (hs : r.state = .ready) : (Instr.beginRound l).run P w = .ok () { w with heap := w.heap.setIfInBounds l (.loop { r with state := .busy }) } := by
  simp only [Instr.beginRound, Instr.getLoop, Sem.run_bind, run_getObj' h (by simp), Result.andThen_ok, Sem.run_pure, run_setObj' h (by simp), hs]

theorem endR_sound {l l' : Nat} {j : Option Code} {W W1 : CW} {v : Value} {m : List (Ending × CW)} {ρ ρ0 : Ren} {w : World} (h : endR l j W = some m) (hb : BRel ρ l l') (hw : WRel P w0 ρ W w) (hg : Grow W1 ρ0 W ρ) {outs : List (Ending × CW)} (hsub : ∀ x, x ∈ m → x ∈ outs) :
    ∃ v w', (Instr.endRound l' j).run P w = .ok v w' ∧ EOut P w0 ρ0 W1 outs (.returned v) w' := by
  unfold endR at h
  split at h
  · rename_i st pd f t nt ps as bd ld hobj
    cases h
    obtain ⟨x, hx, rfl⟩ := hb
    obtain ⟨o', ho', hrel⟩ := hw.obj hobj (by simp) hx rfl
    cases hrel with
    | @loop _ _ _ f0' _ t' _ _ _ _ d' k1 k2 k3 =>
      refine ⟨_, _, run_endRound ho' j, .returned (.bool j.isNone), _, ρ, hsub _ (List.mem_singleton.2 rfl), hg.trans (.refl _), .returned (.bool _), ?_⟩
      have := hw.upd hobj rfl hx (ORel.loop (P := P) (st := if j.isNone then .ready else .done) (pd := j) (f := f) (f' := f0') k1 k2 k3)
      cases j <;> exact this
  · cases h

theorem fold_tmps {ρ : Ren} {nt : Nat} : ∀ (ps : List Tmp) (args args' : List Value) (t : Tr Value) (t' : Array Value), LRel ρ args args' → (∀ i, VRel ρ ((t.get i).getD undef) (t'.getD i undef)) → t'.size = nt → (ps.all fun p => Nat.blt p nt) = true →
    (∀ i, VRel ρ ((((ps.zip args).foldl (fun t (p : Tmp × Value) => t.set p.1 p.2) t).get i).getD undef) (((ps.zip args').foldl (fun t (p : Tmp × Value) => t.setIfInBounds p.1 p.2) t').getD i undef)) ∧ ((ps.zip args').foldl (fun t (p : Tmp × Value) => t.setIfInBounds p.1 p.2) t').size = nt
  | [], _, _, t, t', _, h, hs, _ => ⟨h, hs⟩
  | p :: ps, [], [], t, t', _, h, hs, _ => ⟨h, hs⟩
  | p :: ps, [], _ :: _, _, _, hl, _, _, _ => by have := hl.1; simp at this
  | p :: ps, _ :: _, [], _, _, hl, _, _, _ => by have := hl.1; simp at this
  | p :: ps, x :: xs, y :: ys, t, t', hl, h, hs, hp => by
    simp only [List.all_cons, Bool.and_eq_true] at hp
    have hlt : p < nt := Nat.le_of_ble_eq_true hp.1
    simp only [List.zip_cons_cons, List.foldl_cons]
    refine fold_tmps ps xs ys _ _ hl.tail (fun i => ?_) (by simp [hs]) hp.2
    rw [Tr.get_set]
    simp only [Array.getD_eq_getD_getElem?, Array.getElem?_setIfInBounds]
    by_cases e : i = p
    · have hlt2 : p < t'.size := by rw [hs]; exact hlt
      rw [if_pos e, if_pos e.symm, if_pos hlt2]; exact hl.head
    · rw [if_neg e, if_neg (Ne.symm e), ← Array.getD_eq_getD_getElem?]; exact h i

theorem step_round {L : List FuncId} (hS : RS2 P w0 k R) {l l' : Nat} {args : List Value} {W : CW} {outs : List (Ending × CW)} {ρ : Ren} {w : World} {args' : Array Value} (h : (stepRec P L R).round l args W = some outs) (hb : BRel ρ l l') (hargs : LRel ρ args args'.toList) (hw : WRel P w0 ρ W w) :
    ∃ f t as bd, (Instr.yield l' args').run P w = .ok (.round l' f t as bd) w ∧ ∀ (r : Option Nat) n, RoundIn (fenceOf r) n P l' f t as bd w (EOut P w0 ρ W outs) := by
  simp only [stepRec] at h
  split at h
  rotate_left
  · cases h
  rename_i pd0 f t nt ps as bd ld0 hobj
  rw [cond_eq_ite] at h
  split at h
  rotate_left
  · cases h
  rename_i hlen
  have hlen := Nat.eq_of_beq_eq_true hlen
  obtain ⟨l1, hl1, hall⟩ := bindO_some h
  have hb0 := hb
  obtain ⟨x, hx, rfl⟩ := hb
  obtain ⟨o', ho', hrel⟩ := hw.obj hobj (by simp) hx rfl
  cases hrel with
  | @loop _ _ _ f0' _ t' _ _ _ _ d' k1 k2 k3 =>
    have hsz : args'.size = ps.size := by have := hargs.1; simp at this; omega
    obtain ⟨hT, hTs⟩ := fold_tmps ps.toList args args'.toList t t' hargs k1 rfl k3.1
    refine ⟨f0', (ps.zip args').foldl (fun tmps (t, a) => tmps.setIfInBounds t a) t', as, bd, ?_, fun r n => ?_⟩
    · simp only [Instr.yield, Instr.getLoop, Sem.run_bind, run_getObj' ho' (by simp), Result.andThen_ok, Sem.run_pure, hsz, ne_eq, not_true, if_false]
    · have hfold : (ps.zip args').foldl (fun tmps (x : Tmp × Value) => match x with | (t, a) => tmps.setIfInBounds t a) t' = (ps.toList.zip args'.toList).foldl (fun t (p : Tmp × Value) => t.setIfInBounds p.1 p.2) t' := by
        rw [← Array.foldl_toList, Array.toList_zip]
      rw [hfold]
      have hF : (fenceOf r).inRound x.b = fenceOf (some x.b) := by cases r <;> rfl
      refine roundIn_of_wpIn (fenceOf_fn _ _) ?_
      rw [hF]
      have hA : AR ρ ⟨(ps.toList.zip args).foldl (fun t (p : Tmp × Value) => t.set p.1 p.2) t, t'.size, []⟩ { tmps := (ps.toList.zip args'.toList).foldl (fun t (p : Tmp × Value) => t.setIfInBounds p.1 p.2) t', defers := [] } := ⟨hT, hTs, .nil⟩
      refine wpIn_mono (hS.code hl1 (.some hb0) hA hw k3.2.1 n) fun e' a2 w2 hc => ?_
      obtain ⟨e, a1, W1, ρ1, hm, hg, hxr, ha1, hw1, hnt⟩ := hc
      obtain ⟨m, hm2, hsub⟩ := hall _ hm
      cases hxr with
      | exit id => cases hm2
      | ret => cases hm2
      | panic _ => cases hm2
      | normal =>
        simp only at hm2
        split at hm2
        rotate_left
        · cases hm2
        rename_i pd1 f1 t1 nt1 ps1 as1 bd1 ld1 hobj1
        have hx1 := hg.1 _ _ hx
        obtain ⟨o1', ho1', hrel1⟩ := hw1.obj hobj1 (by simp) hx1 rfl
        cases hrel1 with
        | @loop _ _ _ f1' _ t1' _ _ _ _ d1' q1 q2 q3 =>
          have hw2 := hw1.upd hobj1 rfl hx1 (ORel.loop (P := P) (st := .busy) (pd := pd1) (f := f1) (f' := f1') q1 q2 q3)
          refine ⟨_, run_beginRound ho1' rfl, ?_⟩
          obtain ⟨l2, hl2, hall2⟩ := bindO_some hm2
          have hg2 : Grow W ρ (W1.upd l (.loop .busy pd1 f1 t1 t1'.size ps1 as1 bd1 ld1)) ρ1 := hg.trans (.refl _)
          refine wpIn_mono (hS.code hl2 (.some ⟨x, hx1, rfl⟩) ha1 hw2 (by rw [hnt]; exact k3.2.2) n) fun e' a3 w3 hc => ?_
          obtain ⟨e, a4, W4, ρ4, hm4, hg4, hx4, ha4, hw4, hnt4⟩ := hc
          obtain ⟨m4, hm5, hsub5⟩ := hall2 _ hm4
          have hb4 : BRel ρ4 l x.b := ⟨x, hg4.1 _ _ hx1, rfl⟩
          have hs4 : ∀ y, y ∈ m4 → y ∈ outs := fun y hy => hsub _ (hsub5 _ hy)
          cases hx4 with
          | normal => exact endR_sound (v := undef) hm5 hb4 hw4 (hg2.trans hg4) hs4
          | ret => exact endR_sound (v := undef) hm5 hb4 hw4 (hg2.trans hg4) hs4
          | exit id => exact endR_sound (v := undef) hm5 hb4 hw4 (hg2.trans hg4) hs4
          | panic _ => cases hm5
end
end Go.Ce
