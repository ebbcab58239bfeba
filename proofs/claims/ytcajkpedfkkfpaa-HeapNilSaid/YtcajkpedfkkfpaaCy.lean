/- The canonical machine for closed runs: leaving; calls. -/
import Derived.Test.YtcajkpedfkkfpaaCx
set_option linter.unusedSectionVars false
set_option linter.unusedVariables false
set_option linter.unusedSimpArgs false
namespace Go.Ce
open Go.RowKit (Below)

section
variable {P : Program} {w0 : World} {k : Nat} {R : CRec}

theorem All2.dropWhile {ρ : Ren} : ∀ {c c' : List PanicEntry}, ChRel ρ c c' → ChRel ρ (c.dropWhile (!·.goexit)) (c'.dropWhile (!·.goexit))
  | [], [], .nil => .nil
  | x :: c, y :: c', .cons h hs => by
    simp only [List.dropWhile_cons, h.g]
    cases y.goexit with
    | true => simpa using .cons h hs
    | false => simpa using All2.dropWhile hs

theorem settle_rel {ρ : Ren} {u u' : FrameMode} (h : URel ρ u u') : URel ρ (settle u) (settle u') := by
  cases h with
  | returning => exact .returning
  | @panicking c c' hc =>
    cases hc with
    | nil => exact .panicking .nil
    | @cons x y xs ys hx hxs =>
      obtain ⟨v, r, g⟩ := x
      obtain ⟨v', r', g'⟩ := y
      have hr : r = r' := hx.r
      subst hr
      cases r with
      | false => exact .panicking (.cons hx hxs)
      | true =>
        simp only [settle]
        have hd := All2.dropWhile hxs
        generalize List.dropWhile (fun x => !x.goexit) xs = A at hd
        generalize List.dropWhile (fun x => !x.goexit) ys = B at hd
        cases hd with
        | nil => exact .returning
        | cons a b => exact .panicking (.cons a b)

/-- A block is given up on this side, and changed on that. -/
theorem WRel.drop {ρ : Ren} {W : CW} {w : World} (h : WRel P w0 ρ W w) {i : Nat} {o : CObj} {x : Info} (ho : W.obj i = some o) (hd : o ≠ .dead) (hx : ρ i = some x) (u' : Obj) :
    WRel P w0 ρ (W.upd i .dead) { w with heap := w.heap.setIfInBounds x.b u' } := by
  have hk := h.kill ho
  obtain ⟨o', ho', _, hfr⟩ := h.live i o x ho hd hx
  refine ⟨hk.dom, hk.top, fun j v y hv hvd hy => ?_, hk.inj, ?_⟩
  · obtain ⟨v', hv', hrv, hfv⟩ := hk.live j v y hv hvd hy
    refine ⟨v', ?_, hrv, hfv⟩
    have hji : W.h.get j = some v ∧ j ≠ i := by
      simp only [CW.upd, Tr.get_set] at hv
      split at hv
      · cases hv; exact (hvd rfl).elim
      · rename_i e; exact ⟨hv, e⟩
    have hne : x.b ≠ y.b := fun hb => hji.2 (h.inj j i v o y x hji.1 hvd ho hd hy hx hb.symm)
    show (w.heap.setIfInBounds x.b u')[y.b]? = _
    rw [Array.getElem?_setIfInBounds_ne hne]; exact hv'
  · exact ⟨h.below.os, h.below.tape, h.below.output, by show w0.heap.size ≤ (w.heap.setIfInBounds x.b u').size; rw [Array.size_setIfInBounds]; exact h.below.size, fun q hq => by
      show (w.heap.setIfInBounds x.b u')[q]? = _
      rw [Array.getElem?_setIfInBounds_ne (by omega)]; exact h.below.block q hq⟩

theorem leaves_sound (hS : RS2 P w0 k R) {fn : Func} {a : CAct} {a' : Act} {ρ0 : Ren} {W0 : CW} {n : Nat} {outs : List (Ending × CW)} : ∀ (ds : List Deferred) {ds' : List Deferred} {u u' : FrameMode} {W : CW} {ρ : Ren} {w : World} {m : List (Ending × CW)},
    leaves P R fn a ds u W = some m → All2 (DRel ρ) ds ds' → URel ρ u u' → (∀ i, VRel ρ (a.at i) (a'.tmps.getD i undef)) → WRel P w0 ρ W w → Grow W0 ρ0 W ρ → (∀ x, x ∈ m → x ∈ outs) →
    LeavesInM Fence.wide n P fn a'.tmps (EOut P w0 ρ0 W0 outs) ds' u' w := by
  intro ds
  induction ds with
  | nil =>
    intro ds' u u' W ρ w m h hds hu ha hw hg hsub
    cases hds
    cases hu with
    | returning =>
      simp only [leaves] at h
      split at h
      · rename_i v hv
        cases h
        obtain ⟨v', hr, hvr⟩ := results_sound ha hw hv
        exact ⟨v', hr, _, W, ρ, hsub _ (List.mem_singleton.2 rfl), hg, .returned hvr, hw⟩
      · cases h
    | panicking hc =>
      simp only [leaves] at h
      cases h
      exact ⟨_, W, ρ, hsub _ (List.mem_singleton.2 rfl), hg, .panicked hc, hw⟩
  | cons d ds ih =>
    intro ds' u u' W ρ w m h hds hu ha hw hg hsub
    cases hds with
    | @cons _ d' _ ds' hd hds =>
      have hrun : u' ≠ .run := by cases hu <;> simp
      cases hd with
      | @collected r r' hb =>
        simp only [leaves] at h
        split at h
        · rename_i hobj
          obtain ⟨x, hx, rfl⟩ := hb
          obtain ⟨o', ho', hrel⟩ := hw.obj hobj (by simp) hx rfl
          cases hrel
          have hw2 := hw.drop hobj (by simp) hx (.deferred none)
          refine ⟨hrun, .inl ⟨x.b, _, rfl, ?_, ih h hds hu ha hw2 (hg.trans (.refl _)) hsub⟩⟩
          simp only [Instr.takeDeferred, Sem.run_bind, run_getObj' ho' (by simp), Result.andThen_ok, run_setObj' ho' (by simp), Sem.run_pure]
        · cases h
      | @fn f cap cap' args args' hc hargs =>
        simp only [leaves] at h
        obtain ⟨l, hl, hall⟩ := bindO_some h
        have hl2 : LRel ρ (args.toList ++ cap.toList) (args' ++ cap').toList := by simpa using hargs.append hc
        obtain ⟨hen, hD⟩ := hS.dcall hl hl2 hu hw
        refine ⟨hrun, .inr ⟨(fun h => by cases h), .func f, cap', f, args' ++ cap', rfl, by simp only [invoke]; exact hen, fun _ _ => trivial, (hD (n - 1)).mono fun e2 u2 w2 hE => ?_⟩⟩
        obtain ⟨e, u1, W2, ρ2, hm, hg2, hN, hU, hw2⟩ := hE
        obtain ⟨m2, hm2, hsub2⟩ := hall _ hm
        cases hN with
        | returned _ =>
          exact ih hm2 (forall₂_mono (fun _ _ x => x.mono hg2.1) hds) (settle_rel hU) (fun i => (ha i).mono hg2.1) hw2 (hg.trans hg2) fun x hx => hsub _ (hsub2 _ hx)
        | panicked _ => cases hm2

/-- The slots of an activation that begins. -/
theorem begin_rel {ρ : Ren} {fn : Func} {args : List Value} {args' : Array Value} (h : LRel ρ args args'.toList) (hle : args.length ≤ fn.ntmps) :
    AR ρ (begin_ fn args) { tmps := args' ++ Array.replicate (fn.ntmps - args'.size) undef, defers := [] } := by
  have hs : args'.size = args.length := by have := h.1; simp at this; omega
  refine ⟨fun i => ?_, by simp [begin_, hs]; omega, .nil⟩
  simp only [CAct.at, begin_, Tr.get_putFrom, Nat.zero_le, true_and, Nat.zero_add, Nat.sub_zero, Tr.get_nil]
  rw [Array.getD_eq_getD_getElem?]
  by_cases hi : i < args.length
  · rw [if_pos hi, Array.getElem?_append_left (by omega)]
    have := h.2 i hi
    rw [List.getD_eq_getElem?_getD, List.getD_eq_getElem?_getD] at this
    have e1 : args'.toList[i]? = args'[i]? := Array.getElem?_toList ..
    rw [e1] at this
    exact this
  · rw [if_neg hi, Array.getElem?_append_right (by omega), Array.getElem?_replicate]
    split <;> exact .undef _

/-- The functions that may be called are code that the machine takes. -/
def CK (P : Program) (L : List FuncId) : Prop := ∀ f fn c, memN L f = true → P.funcs[f]? = some fn → fn.body = some c → codeOk fn.ntmps false c = true

theorem CK.of {L : List FuncId} (h : callsOk P L = true) : CK P L := by
  intro f fn c hm hf hb
  have := List.all_eq_true.1 h f (memN_iff.1 hm)
  rw [hf] at this
  simp only [hb] at this
  exact this

theorem step_call (hEN : EN P) {L : List FuncId} (hCK : CK P L) (hS : RS2 P w0 k R) {f : FuncId} {args : List Value} {W : CW} {outs : List (Ending × CW)} {ρ : Ren} {w : World} {args' : Array Value} (h : (stepRec P L R).call f args W = some outs)
    (hargs : LRel ρ args args'.toList) (hw : WRel P w0 ρ W w) : (callFunc f args').run P w = .ok (.enter f args') w ∧ ∀ n, CallsIn Fence.wide n P f args' w (EOut P w0 ρ W outs) := by
  simp only [stepRec] at h
  cases hm : memN L f with
  | false => rw [hm] at h; cases h
  | true =>
    rw [hm] at h
    simp only [Bool.not_true, cond_false] at h
    split at h
    rotate_left
    · cases h
    rename_i fn hf
    split at h
    rotate_left
    · cases h
    rename_i c hc
    rw [cond_eq_ite] at h
    split at h
    rotate_left
    · cases h
    rename_i hle
    have hle := Nat.le_of_ble_eq_true hle
    obtain ⟨l, hl, hall⟩ := bindO_some h
    refine ⟨hEN f fn hf (by rw [hc]; rfl) _ _, fun n => callsIn_of_wp_marks hf hc trivial ?_⟩
    refine wpIn_mono (hS.code (ro' := none) hl .none (begin_rel hargs hle) hw (hCK f fn c hm hf hc) n) fun e' a2 w2 hC => ?_
    obtain ⟨e, a1, W1, ρ1, hmem, hg, hx, ha1, hw1, _⟩ := hC
    obtain ⟨m, hm2, hsub⟩ := hall _ hmem
    cases hx with
    | normal => exact leaves_sound hS _ hm2 ha1.defers .returning ha1.tmps hw1 hg hsub
    | ret => exact leaves_sound hS _ hm2 ha1.defers .returning ha1.tmps hw1 hg hsub
    | panic hch => exact leaves_sound hS _ hm2 ha1.defers (.panicking hch) ha1.tmps hw1 hg hsub
    | exit id => cases hm2
end
end Go.Ce
