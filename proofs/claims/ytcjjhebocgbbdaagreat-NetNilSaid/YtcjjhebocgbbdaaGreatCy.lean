/- The canonical machine for closed runs: leaving; calls. -/
import Derived.Test.YtcjjhebocgbbdaaGreatCx
set_option linter.unusedSectionVars false
set_option linter.unusedVariables false
set_option linter.unusedSimpArgs false
namespace Go.Ce
open Go.RowKit (Below)

section
variable {P : Program} {w0 : World} {k : Nat} {R : CRec}

theorem All2.dropWhile {ρ : Ren} : ∀ {c c' : List PanicEntry}, ChRel ρ c c' → ChRel ρ (c.dropWhile (!·.goexit)) (c'.dropWhile (!·.goexit))
  | [], [], .nil => .nil
  | x :: c, y :: c', .cons h hs => by
    simp only [List.dropWhile_cons, h.g]
    cases y.goexit with
    | true => simpa using .cons h hs
    | false => simpa using All2.dropWhile hs

theorem settle_rel {ρ : Ren} {u u' : FrameMode} (h : URel ρ u u') : URel ρ (settle u) (settle u') := by
  cases h with
  | returning => exact .returning
  | @panicking c c' hc =>
    cases hc with
    | nil => exact .panicking .nil
    | @cons x y xs ys hx hxs =>
      obtain ⟨v, r, g⟩ := x
      obtain ⟨v', r', g'⟩ := y
      have hr : r = r' := hx.r
      subst hr
      cases r with
      | false => exact .panicking (.cons hx hxs)
      | true =>
        simp only [settle]
        have hd := All2.dropWhile hxs
        generalize List.dropWhile (fun x => !x.goexit) xs = A at hd
        generalize List.dropWhile (fun x => !x.goexit) ys = B at hd
        cases hd with
        | nil => exact .returning
        | cons a b => exact .panicking (.cons a b)

/-- A block is given up on this side, and changed on that. -/
theorem WRel.drop {ρ : Ren} {W : CW} {w : World} (h : WRel P w0 ρ W w) {i : Nat} {o : CObj} {x : Info} (ho : W.obj i = some o) (hd : o.mut = true) (hx : ρ i = some x) (u' : Obj) :
    WRel P w0 ρ (W.upd i .dead) { w with heap := w.heap.setIfInBounds x.b u' } := by
  have hk := h.kill ho
  obtain ⟨o', ho', _, hfr, _⟩ := h.live i o x ho (CObj.mut_ne hd) hx
  have hfr := hfr hd
  refine ⟨hk.dom, hk.top, fun j v y hv hvd hy => ?_, hk.inj, ?_⟩
  · obtain ⟨v', hv', hrv, hfv⟩ := hk.live j v y hv hvd hy
    refine ⟨v', ?_, hrv, hfv⟩
    have hji : W.h.get j = some v ∧ j ≠ i := by
      simp only [CW.upd, Tr.get_set] at hv
      split at hv
      · cases hv; exact (hvd rfl).elim
      · rename_i e; exact ⟨hv, e⟩
    have hne : x.b ≠ y.b := fun hb => by
      cases hvm : v.mut with
      | true => exact hji.2 (h.inj j i v o y x hji.1 hvm ho hd hy hx hb.symm)
      | false => have := hfv.2 hvm; omega
    show (w.heap.setIfInBounds x.b u')[y.b]? = _
    rw [Array.getElem?_setIfInBounds_ne hne]; exact hv'
  · exact ⟨h.below.os, h.below.tape, h.below.output, by show w0.heap.size ≤ (w.heap.setIfInBounds x.b u').size; rw [Array.size_setIfInBounds]; exact h.below.size, fun q hq => by
      show (w.heap.setIfInBounds x.b u')[q]? = _
      rw [Array.getElem?_setIfInBounds_ne (by omega)]; exact h.below.block q hq⟩

theorem leaves_sound (hS : RS2 P w0 k R) {fn : Func} {a : CAct} {a' : Act} {ρ0 : Ren} {W0 : CW} {n : Nat} {outs : List (Ending × CW)} : ∀ (ds : List Deferred) {ds' : List Deferred} {u u' : FrameMode} {W : CW} {ρ : Ren} {w : World} {m : List (Ending × CW)},
    leaves P R fn a ds u W = some m → All2 (DRel ρ) ds ds' → URel ρ u u' → (∀ i, VRel ρ (a.at i) (a'.tmps.getD i undef)) → WRel P w0 ρ W w → Grow W0 ρ0 W ρ → (∀ x, x ∈ m → x ∈ outs) →
    LeavesInM Fence.wide n P fn a'.tmps (EOut P w0 ρ0 W0 outs) ds' u' w := by
  intro ds
  induction ds with
  | nil =>
    intro ds' u u' W ρ w m h hds hu ha hw hg hsub
    cases hds
    cases hu with
    | returning =>
      simp only [leaves] at h
      split at h
      · rename_i v hv
        cases h
        obtain ⟨v', hr, hvr⟩ := results_sound ha hw hv
        exact ⟨v', hr, _, W, ρ, hsub _ (List.mem_singleton.2 rfl), hg, .returned hvr, hw⟩
      · cases h
    | panicking hc =>
      simp only [leaves] at h
      cases h
      exact ⟨_, W, ρ, hsub _ (List.mem_singleton.2 rfl), hg, .panicked hc, hw⟩
  | cons d ds ih =>
    intro ds' u u' W ρ w m h hds hu ha hw hg hsub
    cases hds with
    | @cons _ d' _ ds' hd hds =>
      have hrun : u' ≠ .run := by cases hu <;> simp
      cases hd with
      | @collected r r' hb =>
        simp only [leaves] at h
        split at h
        · rename_i hobj
          obtain ⟨x, hx, rfl⟩ := hb
          obtain ⟨o', ho', hrel⟩ := hw.obj hobj (by simp) hx rfl
          cases hrel
          have hw2 := hw.drop hobj rfl hx (.deferred none)
          refine ⟨hrun, .inl ⟨x.b, _, rfl, ?_, ih h hds hu ha hw2 (hg.trans (.refl _)) hsub⟩⟩
          simp only [Instr.takeDeferred, Sem.run_bind, run_getObj' ho' (by simp), Result.andThen_ok, run_setObj' ho' (by simp), Sem.run_pure]
        · cases h
      | @fn f cap cap' args args' hc hargs =>
        simp only [leaves] at h
        obtain ⟨l, hl, hall⟩ := bindO_some h
        have hl2 : LRel ρ (args.toList ++ cap.toList) (args' ++ cap').toList := by simpa using hargs.append hc
        obtain ⟨hen, hD⟩ := hS.dcall hl hl2 hu hw
        refine ⟨hrun, .inr ⟨(fun h => by cases h), .func f, cap', f, args' ++ cap', rfl, by simp only [invoke]; exact hen, fun _ _ => trivial, (hD (n - 1)).mono fun e2 u2 w2 hE => ?_⟩⟩
        obtain ⟨e, u1, W2, ρ2, hm, hg2, hN, hU, hw2⟩ := hE
        obtain ⟨m2, hm2, hsub2⟩ := hall _ hm
        cases hN with
        | returned _ =>
          exact ih hm2 (forall₂_mono (fun _ _ x => x.mono hg2.1) hds) (settle_rel hU) (fun i => (ha i).mono hg2.1) hw2 (hg.trans hg2) fun x hx => hsub _ (hsub2 _ hx)
        | panicked _ => cases hm2

/-- The slots of an activation that begins. -/
theorem begin_rel {ρ : Ren} {fn : Func} {args : List Value} {args' : Array Value} (h : LRel ρ args args'.toList) (hle : args.length ≤ fn.ntmps) :
    AR ρ (begin_ fn args) { tmps := args' ++ Array.replicate (fn.ntmps - args'.size) undef, defers := [] } := by
  have hs : args'.size = args.length := by have := h.1; simp at this; omega
  refine ⟨fun i => ?_, by simp [begin_, hs]; omega, .nil⟩
  simp only [CAct.at, begin_, Tr.get_putFrom, Nat.zero_le, true_and, Nat.zero_add, Nat.sub_zero, Tr.get_nil]
  rw [Array.getD_eq_getD_getElem?]
  by_cases hi : i < args.length
  · rw [if_pos hi, Array.getElem?_append_left (by omega)]
    have := h.2 i hi
    rw [List.getD_eq_getElem?_getD, List.getD_eq_getElem?_getD] at this
    have e1 : args'.toList[i]? = args'[i]? := Array.getElem?_toList ..
    rw [e1] at this
    exact this
  · rw [if_neg hi, Array.getElem?_append_right (by omega), Array.getElem?_replicate]
    split <;> exact .undef _

/-- What is known of the functions that may be called: they are code that the machine takes; those told by f + 2000000 hand back true, and leave what was there. -/
def CK (P : Program) (L : List FuncId) : Prop := (∀ f fn c, memN L f = true → P.funcs[f]? = some fn → fn.body = some c → codeOk P fn.ntmps false c = true) ∧
  ∀ f, memN L (f + 2000000) = true → (∃ fn, P.funcs[f]? = some fn ∧ fn.body.isSome = true) ∧ ∀ w : World, Calls P f #[] w fun e w' => e = .returned (.bool true) ∧ Below w.heap.size w w'

theorem CK.of {L : List FuncId} (h : callsOk P L = true) (hL : (L.all fun f => Nat.blt f 2000000) = true) : CK P L := by
  refine ⟨fun f fn c hm hf hc => ?_, fun f hm => ?_⟩
  · have := List.all_eq_true.1 h f (memN_iff.1 hm)
    rw [hf] at this
    simp only [hc] at this
    exact this
  · have := List.all_eq_true.1 hL _ (memN_iff.1 hm)
    have := Nat.le_of_ble_eq_true this
    omega

/-- One function more that is known to hand back true. -/
theorem CK.add {L : List FuncId} (h : CK P L) {g : FuncId} (hg : Nat.blt g 1000000 = true) (hL : (L.all fun f => Nat.blt f 2000000) = true) {fn : Func} (hf : P.funcs[g]? = some fn) (hb : fn.body.isSome = true) (hsz : Nat.ble P.funcs.size 2000000 = true)
    (hc : ∀ w : World, Calls P g #[] w fun e w' => e = .returned (.bool true) ∧ Below w.heap.size w w') : CK P ((g + 2000000) :: L) := by
  have hsz := Nat.le_of_ble_eq_true hsz
  refine ⟨fun f fn c hm hf hc => ?_, fun f hm => ?_⟩
  · rcases List.mem_cons.1 (memN_iff.1 hm) with rfl | hm
    · have := (Array.getElem?_eq_some_iff.1 hf).1
      omega
    · exact h.1 f fn c (memN_iff.2 hm) hf hc
  · rcases List.mem_cons.1 (memN_iff.1 hm) with he | hm
    · have : f = g := by omega
      subst this
      exact ⟨⟨fn, hf, hb⟩, hc⟩
    · have := List.all_eq_true.1 hL _ hm
      have := Nat.le_of_ble_eq_true this
      omega

theorem WRel.behind {ρ : Ren} {W : CW} {w w' : World} (h : WRel P w0 ρ W w) (hb : Below w.heap.size w w') : WRel P w0 ρ W w' :=
  ⟨h.dom, h.top, fun i o x ho hd hx => by
      obtain ⟨o', ho', hr, hf⟩ := h.live i o x ho hd hx
      have hlt := (Array.getElem?_eq_some_iff.1 ho').1
      exact ⟨o', by rw [hb.block _ hlt]; exact ho', hr, hf⟩, h.inj, h.below.trans (hb.mono h.below.size)⟩

theorem call_plain (hEN : EN P) {L : List FuncId} (hCK : CK P L) (hS : RS2 P w0 k R) {f : FuncId} {args : List Value} {W : CW} {outs : List (Ending × CW)} {ρ : Ren} {w : World} {args' : Array Value} (h : (match P.funcs[f]? with
    | some fn => match fn.body with
      | some c => cond (Nat.ble args.length fn.ntmps) (bindO (R.code none f c (begin_ fn args) W) fun (e, a, W) =>
        match e with
        | .normal => leaves P R fn a a.defers .returning W
        | .ret => leaves P R fn a a.defers .returning W
        | .panic ch => leaves P R fn a a.defers (.panicking ch) W
        | _ => none) none
      | _ => none
    | _ => none) = some outs) (hm : memN L f = true)
    (hargs : LRel ρ args args'.toList) (hw : WRel P w0 ρ W w) : (callFunc f args').run P w = .ok (.enter f args') w ∧ ∀ n, CallsIn Fence.wide n P f args' w (EOut P w0 ρ W outs) := by
  split at h
  rotate_left
  · cases h
  rename_i fn hf
  split at h
  rotate_left
  · cases h
  rename_i c hc
  rw [cond_eq_ite] at h
  split at h
  rotate_left
  · cases h
  rename_i hle
  have hle := Nat.le_of_ble_eq_true hle
  obtain ⟨l, hl, hall⟩ := bindO_some h
  refine ⟨hEN f fn hf (by rw [hc]; rfl) _ _, fun n => callsIn_of_wp_marks hf hc trivial ?_⟩
  refine wpIn_mono (hS.code (ro' := none) hl .none (begin_rel hargs hle) hw (hCK.1 f fn c hm hf hc) n) fun e' a2 w2 hC => ?_
  obtain ⟨e, a1, W1, ρ1, hmem, hg, hx, ha1, hw1, _⟩ := hC
  obtain ⟨m, hm2, hsub⟩ := hall _ hmem
  cases hx with
  | normal => exact leaves_sound hS _ hm2 ha1.defers .returning ha1.tmps hw1 hg hsub
  | ret => exact leaves_sound hS _ hm2 ha1.defers .returning ha1.tmps hw1 hg hsub
  | panic hch => exact leaves_sound hS _ hm2 ha1.defers (.panicking hch) ha1.tmps hw1 hg hsub
  | exit id => cases hm2

theorem merged_cases {m outs : List (Ending × CW)} (h : merged (some m) = some outs) : outs = m ∨ ∃ v W2, outs = [(.returned v, W2)] := by
  unfold merged at h
  split at h
  · split at h
    · cases h; exact .inr ⟨_, _, rfl⟩
    · rename_i heq _ _
      cases h
      cases heq
      exact .inl rfl
  · cases h; exact .inl rfl

theorem step_call (hEN : EN P) {L : List FuncId} (hCK : CK P L) (hS : RS2 P w0 k R) {f : FuncId} {args : List Value} {W : CW} {outs : List (Ending × CW)} {ρ : Ren} {w : World} {args' : Array Value} (h : (stepRec P L R).call f args W = some outs)
    (hargs : LRel ρ args args'.toList) (hw : WRel P w0 ρ W w) : (callFunc f args').run P w = .ok (.enter f args') w ∧ ∀ n, CallsIn Fence.wide n P f args' w (EOut P w0 ρ W outs) := by
  simp only [stepRec] at h
  cases hm : memN L f with
  | false => rw [hm] at h; cases h
  | true =>
    rw [hm] at h
    simp only [Bool.not_true, cond_false] at h
    rw [cond_eq_ite] at h
    split at h
    · rename_i ho
      simp only [Bool.and_eq_true] at ho
      have hnil : args = [] := by simpa using ho.2
      subst hnil
      have hnil' : args' = #[] := by
        have := hargs.1
        apply Array.ext'
        exact List.length_eq_zero_iff.1 this.symm
      subst hnil'
      obtain ⟨⟨fn, hf, hb⟩, hc⟩ := hCK.2 f ho.1
      cases h
      refine ⟨hEN f fn hf hb _ _, fun n => (callsIn_wide.2 (hc w)).mono fun e w' hE => ?_⟩
      obtain ⟨rfl, hbel⟩ := hE
      exact ⟨_, W, ρ, List.mem_singleton.2 rfl, .refl _, .returned (.bool _), hw.behind hbel⟩
    cases hmm : memN L (f + 1000000) with
    | false =>
      rw [hmm] at h
      exact call_plain hEN hCK hS h hm hargs hw
    | true =>
      rw [hmm] at h
      simp only [cond_true] at h
      obtain ⟨m, hm0⟩ := merged_some h
      obtain ⟨h1, h2⟩ := call_plain hEN hCK hS hm0 hm hargs hw
      refine ⟨h1, fun n => (h2 n).mono fun e w' hE => ?_⟩
      rw [hm0] at h
      rcases merged_cases h with rfl | ⟨v, W2, rfl⟩
      · exact hE
      · obtain ⟨v', ρ2, rfl, hg, hv, hw2⟩ := merged_sound h hE
        exact ⟨_, _, ρ2, List.mem_singleton.2 rfl, hg, .returned hv, hw2⟩

end
end Go.Ce
