/- The canonical machine for closed runs: deferred functions, which may recover; the whole. -/
import Derived.Test.YtcjjhebocgbbdaaGreatCy
set_option linter.unusedSectionVars false
set_option linter.unusedVariables false
set_option linter.unusedSimpArgs false
namespace Go.Ce
open Go.RowKit (Below)

section
variable {P : Program} {w0 : World} {k : Nat} {R : CRec}

/-- What the body of a deferred function comes to. -/
def SOut (P : Program) (w0 : World) (ρ : Ren) (W : CW) (nt : Nat) (c₀ : Frame) (cs : List Frame) (outs : List (Exit × CAct × FrameMode × CW)) : Exit → Act → List Frame → World → Prop :=
  fun e' a' cs' w' => ∃ e a u W2 ρ2 u', (e, a, u, W2) ∈ outs ∧ Grow W ρ W2 ρ2 ∧ XRel ρ2 e e' ∧ AR ρ2 a a' ∧ URel ρ2 u u' ∧ WRel P w0 ρ2 W2 w' ∧ a.nt = nt ∧ cs' = { c₀ with mode := u' } :: cs

theorem SOut.mono {ρ ρ1 : Ren} {W W1 : CW} {nt : Nat} {c₀ : Frame} {cs cs' : List Frame} {m outs : List (Exit × CAct × FrameMode × CW)} {e' : Exit} {a' : Act} {w' : World} (h : SOut P w0 ρ1 W1 nt c₀ cs m e' a' cs' w')
    (hg : Grow W ρ W1 ρ1) (hs : ∀ x, x ∈ m → x ∈ outs) : SOut P w0 ρ W nt c₀ cs outs e' a' cs' w' :=
  let ⟨e, a, u, W2, ρ2, u', h1, h2, h3, h4, h5, h6, h7, h8⟩ := h
  ⟨e, a, u, W2, ρ2, u', hs _ h1, hg.trans h2, h3, h4, h5, h6, h7, h8⟩

theorem evOpsS_sound (hz : ZP P) {ops : Array Oper} {n : Nat} {c₀ : Frame} {cs : List Frame} : ∀ (rest : List Oper) (i : Nat) (a : CAct) (u u' : FrameMode) (W : CW) (outs : List (Exit × CAct × FrameMode × CW)) (ρ : Ren) (a' : Act) (w : World) (Q : Exit → Act → List Frame → World → Prop),
    ops.toList.drop i = rest → evOpsS P R ops rest a u W = some outs → opsOk a.nt false rest = true → AR ρ a a' → URel ρ u u' → WRel P w0 ρ W w → (∀ e a2 cs2 w2, SOut P w0 ρ W a.nt c₀ cs outs e a2 cs2 w2 → Q e a2 cs2 w2) →
    wpOpsSIn Fence.wide n P ops Q (List.range' i rest.length) a' ({ c₀ with mode := u' } :: cs) w := by
  intro rest
  induction rest with
  | nil =>
    intro i a u u' W outs ρ a' w Q _ h _ ha hu hw hQ
    simp only [evOpsS, Option.some.injEq] at h
    subst h
    exact hQ _ _ _ _ ⟨_, _, _, _, ρ, u', List.mem_singleton.2 rfl, .refl _, .normal, ha, hu, hw, rfl, rfl⟩
  | cons o rest ih =>
    intro i a u u' W outs ρ a' w Q hdrop h hok ha hu hw hQ
    have ho : ops[i]? = some o := by
      have : ops.toList[i]? = some o := by
        have := congrArg (·[0]?) hdrop
        simpa [List.getElem?_drop] using this
      simpa using this
    have hdrop' : ops.toList.drop (i + 1) = rest := by simpa using congrArg List.tail hdrop
    simp only [opsOk, List.all_cons, Bool.and_eq_true] at hok
    obtain ⟨⟨⟨hok1, hok2⟩, _⟩, hokr⟩ := hok
    have hokr : ∀ {nt : Nat}, nt = a.nt → opsOk nt false rest = true := fun e => by subst e; exact hokr
    have hd := dstOk_spec hok2
    simp only [List.length_cons, List.range'_succ, wpOpsSIn, ho]
    refine ⟨fun f _ => trivial, ?_⟩
    rw [ha.wanted ops o]
    rw [evOpsS] at h
    cases hwt : cwanted ops o a with
    | false =>
      rw [hwt] at h
      simp only at h
      rw [if_neg (by simp)]
      refine ih (i + 1) _ _ _ _ _ ρ _ _ Q hdrop' h (hokr (CAct.put_nt _ _ _)) (ha.put hd (.undef _)) hu hw fun e a2 cs2 w2 hc => hQ e a2 cs2 w2 ?_
      rwa [CAct.put_nt] at hc
    | true =>
      rw [hwt] at h
      simp only at h
      rw [if_pos rfl]
      obtain ⟨l, hl, hall⟩ := bindO_some h
      obtain ⟨n0, W1, ρ1, hm, hg, hn⟩ := op_sound (o := o) hz hok1 (e := a.eval) (e' := a'.eval) (fun _ => rfl) (fun x _ hx => ha.eval x hx) hw hl
      obtain ⟨m, hm2, hsub⟩ := hall _ hm
      have go : ∀ {v v' : Value} {u1 u1' : FrameMode} {w1 : World}, evOpsS P R ops rest (a.put o.dst v) u1 W1 = some m → VRel ρ1 v v' → URel ρ1 u1 u1' → WRel P w0 ρ1 W1 w1 → wpOpsSIn Fence.wide n P ops Q (List.range' (i + 1) rest.length) (a'.put o.dst v') ({ c₀ with mode := u1' } :: cs) w1 := by
        intro v v' u1 u1' w1 he hv hu1 hw1
        refine ih (i + 1) _ _ _ _ _ ρ1 _ _ Q hdrop' he (hokr (CAct.put_nt _ _ _)) ((ha.mono hg.1).put hd hv) hu1 hw1 fun e a2 cs2 w2 hc => hQ e a2 cs2 w2 (SOut.mono ?_ hg hsub)
        rwa [CAct.put_nt] at hc
      cases hn with
      | value hr hv hw1 => rw [hr]; exact go hm2 hv (hu.mono hg.1) hw1
      | skip hr hw1 => rw [hr]; exact go hm2 (.undef _) (hu.mono hg.1) hw1
      | enter _ _ _ => cases hm2
      | round _ _ _ _ => cases hm2
      | defer _ _ _ => cases hm2
      | panic hr hv hw1 =>
        rw [hr]
        simp only [Option.some.injEq] at hm2
        subst hm2
        exact hQ _ _ _ _ ⟨_, _, _, _, ρ1, u', hsub _ (List.mem_singleton.2 rfl), hg, .panic (.cons ⟨hv, rfl, rfl⟩ .nil), ha.mono hg.1, hu.mono hg.1, hw1, rfl, rfl⟩
      | recover hr hw1 =>
        rw [hr]
        simp only [recoverD]
        have hu1 := hu.mono hg.1
        cases hu1 with
        | returning => exact go hm2 .nilIface .returning hw1
        | @panicking c c' hc =>
          cases hc with
          | nil => exact go hm2 .nilIface (.panicking .nil) hw1
          | @cons x y xs ys hx hxs =>
            obtain ⟨v, r, g⟩ := x
            obtain ⟨v', r', g'⟩ := y
            have e1 : r = r' := hx.r
            have e2 : g = g' := hx.g
            subst e1; subst e2
            cases r <;> cases g
            · exact go hm2 hx.v (.panicking (.cons ⟨hx.v, rfl, rfl⟩ hxs)) hw1
            · exact go hm2 .nilIface (.panicking (.cons ⟨hx.v, rfl, rfl⟩ hxs)) hw1
            · exact go hm2 .nilIface (.panicking (.cons ⟨hx.v, rfl, rfl⟩ hxs)) hw1
            · exact go hm2 .nilIface (.panicking (.cons ⟨hx.v, rfl, rfl⟩ hxs)) hw1

theorem wpSIn_mono {F : Fence} {n : Nat} {c : Code} {Q Q' : Exit → Act → List Frame → World → Prop} {a : Act} {cs : List Frame} {w : World} (h : c.wpSIn F n P Q a cs w) (hq : ∀ e a cs w, Q e a cs w → Q' e a cs w) : c.wpSIn F n P Q' a cs w :=
  fun b k h1 h2 h3 h4 => let ⟨e, a', cs', w', l, q, r⟩ := h b k h1 h2 h3 h4; ⟨e, a', cs', w', l, hq _ _ _ _ q, r⟩

theorem evS_code (hS : RS2 P w0 k R) {fn : FuncId} {n : Nat} {c₀ : Frame} {cs : List Frame} {c : Code} {a : CAct} {u u' : FrameMode} {W : CW} {outs : List (Exit × CAct × FrameMode × CW)} {ρ : Ren} {a' : Act} {w : World} {Q : Exit → Act → List Frame → World → Prop}
    (h : (bindO (R.code none fn c a W) fun (e, a, W) => some [(e, a, u, W)]) = some outs) (hok : codeOk P a.nt false c = true) (ha : AR ρ a a') (hu : URel ρ u u') (hw : WRel P w0 ρ W w) (hQ : ∀ e a2 cs2 w2, SOut P w0 ρ W a.nt c₀ cs outs e a2 cs2 w2 → Q e a2 cs2 w2) :
    c.wpSIn Fence.wide n P Q a' ({ c₀ with mode := u' } :: cs) w := by
  obtain ⟨l, hl, hall⟩ := bindO_some h
  refine wpSIn_of_wpIn rfl (wpIn_mono (hS.code (ro' := none) hl .none ha hw hok n) fun e' a2 w2 hC => ?_)
  obtain ⟨e, a1, W1, ρ1, hm, hg, hx, ha1, hw1, hnt⟩ := hC
  obtain ⟨m, hm2, hsub⟩ := hall _ hm
  cases hm2
  exact hQ _ _ _ _ ⟨_, _, _, _, ρ1, u', hsub _ (List.mem_singleton.2 rfl), hg, hx, ha1, hu.mono hg.1, hw1, hnt, rfl⟩

theorem evS_sound (hz : ZP P) (hS : RS2 P w0 k R) {fn : FuncId} {n : Nat} {c₀ : Frame} {cs : List Frame} : ∀ (c : Code) (a : CAct) (u u' : FrameMode) (W : CW) (outs : List (Exit × CAct × FrameMode × CW)) (ρ : Ren) (a' : Act) (w : World) (Q : Exit → Act → List Frame → World → Prop),
    evS P R fn c a u W = some outs → codeOk P a.nt false c = true → AR ρ a a' → URel ρ u u' → WRel P w0 ρ W w → (∀ e a2 cs2 w2, SOut P w0 ρ W a.nt c₀ cs outs e a2 cs2 w2 → Q e a2 cs2 w2) →
    c.wpSIn Fence.wide n P Q a' ({ c₀ with mode := u' } :: cs) w := by
  intro c
  induction c with
  | region id ops d =>
    intro a u u' W outs ρ a' w Q h hok ha hu hw hQ
    cases d with
    | true => exact evS_code hS (by simpa only [evS] using h) hok ha hu hw hQ
    | false =>
      simp only [evS] at h
      simp only [codeOk, Bool.and_eq_true] at hok
      refine wpSIn_region ?_
      have := evOpsS_sound (R := R) (n := n) (c₀ := c₀) (cs := cs) hz ops.toList 0 a u u' W outs ρ a' w Q rfl h hok.1 ha hu hw hQ
      rw [List.range_eq_range']
      simpa using this
  | seq x y ihx ihy =>
    intro a u u' W outs ρ a' w Q h hok ha hu hw hQ
    simp only [evS] at h
    simp only [codeOk, Bool.and_eq_true] at hok
    obtain ⟨l, hl, hall⟩ := bindO_some h
    refine wpSIn_seq (ihx a u u' W l ρ a' w _ hl hok.1 ha hu hw fun e' a2 cs2 w2 hC => ?_)
    obtain ⟨e, a1, u1, W1, ρ1, u1', hm, hg, hx, ha1, hu1, hw1, hnt, rfl⟩ := hC
    obtain ⟨m, hm2, hsub⟩ := hall _ hm
    cases hx with
    | normal => exact ihy _ _ _ _ _ ρ1 _ _ _ hm2 (by rw [hnt]; exact hok.2) ha1 hu1 hw1 fun e a2 cs2 w2 hc => hQ e a2 cs2 w2 (SOut.mono (by rw [← hnt]; exact hc) hg hsub)
    | exit id => cases hm2; exact hQ _ _ _ _ ⟨_, _, _, _, ρ1, u1', hsub _ (List.mem_singleton.2 rfl), hg, .exit id, ha1, hu1, hw1, hnt, rfl⟩
    | ret => cases hm2; exact hQ _ _ _ _ ⟨_, _, _, _, ρ1, u1', hsub _ (List.mem_singleton.2 rfl), hg, .ret, ha1, hu1, hw1, hnt, rfl⟩
    | panic hch => cases hm2; exact hQ _ _ _ _ ⟨_, _, _, _, ρ1, u1', hsub _ (List.mem_singleton.2 rfl), hg, .panic hch, ha1, hu1, hw1, hnt, rfl⟩
  | cond c x y ihx ihy =>
    intro a u u' W outs ρ a' w Q h hok ha hu hw hQ
    simp only [evS] at h
    simp only [codeOk, Bool.and_eq_true] at hok
    have hv := ha.eval c hok.1
    split at h
    · rename_i hb
      rw [hb] at hv
      generalize hcc : a'.eval c = v at hv
      cases hv
      exact wpSIn_cond (t := true) hcc (ihx _ _ _ _ _ ρ _ _ _ h hok.2.1 ha hu hw hQ)
    · rename_i hb
      rw [hb] at hv
      generalize hcc : a'.eval c = v at hv
      cases hv
      exact wpSIn_cond (t := false) hcc (ihy _ _ _ _ _ ρ _ _ _ h hok.2.2 ha hu hw hQ)
    · cases h
  | _ =>
    intro a u u' W outs ρ a' w Q h hok ha hu hw hQ
    exact evS_code hS (by simpa only [evS] using h) hok ha hu hw hQ

theorem step_dcall (hz : ZP P) (hEN : EN P) {L : List FuncId} (hCK : CK P L) (hS : RS2 P w0 k R) {f : FuncId} {args : List Value} {u u' : FrameMode} {W : CW} {outs : List (Ending × FrameMode × CW)} {ρ : Ren} {w : World} {args' : Array Value} (h : (stepRec P L R).dcall f args u W = some outs)
    (hargs : LRel ρ args args'.toList) (hu : URel ρ u u') (hw : WRel P w0 ρ W w) : (callFunc f args').run P w = .ok (.enter f args') w ∧ ∀ n, CallsDIn Fence.wide n P f args' u' w (DOut P w0 ρ W outs) := by
  simp only [stepRec] at h
  cases hm : memN L f with
  | false => rw [hm] at h; cases h
  | true =>
    rw [hm] at h
    simp only [Bool.not_true, cond_false] at h
    split at h
    rotate_left
    · cases h
    rename_i fn hf
    split at h
    rotate_left
    · cases h
    rename_i c hc
    rw [cond_eq_ite] at h
    split at h
    rotate_left
    · cases h
    rename_i hle
    have hle := Nat.le_of_ble_eq_true hle
    obtain ⟨l, hl, hall⟩ := bindO_some h
    refine ⟨hEN f fn hf (by rw [hc]; rfl) _ _, fun n => callsDIn_of_wpSIn hf hc trivial fun c₀ cs hmode => ?_⟩
    subst hmode
    refine evS_sound (c₀ := c₀) (cs := cs) hz hS c _ u c₀.mode W l ρ _ w _ hl (hCK.1 f fn c hm hf hc) (begin_rel hargs hle) hu hw fun e' a2 cs2 w2 hC => ?_
    obtain ⟨e, a1, u1, W1, ρ1, u1', hmem, hg, hx, ha1, hu1, hw1, _, rfl⟩ := hC
    obtain ⟨m, hm2, hsub⟩ := hall _ hmem
    simp only [cond_eq_ite] at hm2
    split at hm2
    rotate_left
    · cases hm2
    rename_i hd
    have hd : a2.defers = [] := by
      have hA := ha1.defers
      generalize a2.defers = D at hA
      cases hq : a1.defers with
      | nil => rw [hq] at hA; cases hA; rfl
      | cons _ _ => rw [hq] at hd; cases hd
    have fin : ∀ {v : Value}, cresults P fn a1 W1 = some v → m = [(.returned v, u1, W1)] → ∃ v', (results fn a2.tmps).run P w2 = .ok v' w2 ∧ DOut P w0 ρ W outs (.returned v') u1' w2 := by
      intro v hv hmm
      obtain ⟨v', hr, hvr⟩ := results_sound ha1.tmps hw1 hv
      exact ⟨v', hr, _, u1, W1, ρ1, hsub _ (by rw [hmm]; simp), hg, .returned hvr, hu1, hw1⟩
    cases hx with
    | normal =>
      simp only at hm2
      split at hm2
      · rename_i v hv
        cases hm2
        exact ⟨hd, u1', rfl, fin hv rfl⟩
      · cases hm2
    | ret =>
      simp only at hm2
      split at hm2
      · rename_i v hv
        cases hm2
        exact ⟨hd, u1', rfl, fin hv rfl⟩
      · cases hm2
    | exit id => cases hm2
    | panic _ => cases hm2

theorem rs_none : RS2 P w0 0 CRec.none where
  code h := by cases h
  call h := by cases h
  round h := by cases h
  loop h := by cases h
  dcall h := by cases h

theorem rs_step (hz : ZP P) (hmix : P.follows .mixedOrders = true) (hEN : EN P) {L : List FuncId} (hCK : CK P L) (hS : RS2 P w0 k R) : RS2 P w0 (k + 1) (stepRec P L R) where
  code h hr ha hw hok n := step_code hz hmix hS h hr ha hw hok fun _ _ _ h => h
  call h hargs hw := step_call hEN hCK hS h hargs hw
  round h hb hargs hw := step_round hS h hb hargs hw
  loop h hr ha hw hok n Q hQ := loop_sound hS (by simpa only [stepRec, stepCode] using h) hr ha hw hok hQ
  dcall h hargs hu hw := step_dcall hz hEN hCK hS h hargs hu hw

theorem rs_all (hz : ZP P) (hmix : P.follows .mixedOrders = true) (hEN : EN P) {L : List FuncId} (hCK : CK P L) : ∀ n, RS2 P w0 n (evN P L n)
  | 0 => rs_none
  | n + 1 => rs_step hz hmix hEN hCK (rs_all hz hmix hEN hCK n)
end

theorem Below.refl' (w : World) : Below w.heap.size w w := ⟨rfl, rfl, rfl, Nat.le_refl _, fun _ _ => rfl⟩

/-- **A CLOSED RUN.** Where the canonical machine says of a function without arguments that it hands back true, so does every run of the model's, in every world; and what was there before stays. -/
theorem closed_run {P : Program} (hz : ZP P) (hmix : P.follows .mixedOrders = true) (hEN : EN P) {L : List FuncId} (hCK : CK P L) {f : FuncId} {n : Nat} (h : allTrue ((evN P L n).call f [] (W0 0)) = true) (w : World) :
    Calls P f #[] w (fun e w' => e = .returned (.bool true) ∧ Below w.heap.size w w') := by
  have hw : WRel P w (fun _ => none) (W0 0) w := ⟨(fun i x hx => by cases hx), (fun i o ho => by cases ho), (fun i o x ho => by cases ho), (fun i j o u x y ho => by cases ho), Below.refl' w⟩
  cases ho : (evN P L n).call f [] (W0 0) with
  | none => rw [ho] at h; cases h
  | some outs =>
    rw [ho] at h
    obtain ⟨_, hc⟩ := (rs_all (w0 := w) hz hmix hEN hCK n).call ho (args' := #[]) (.nil _) hw
    refine callsIn_wide.1 ((hc 0).mono fun e w' hE => ?_)
    obtain ⟨e0, W2, ρ2, hm, _, hN, hw2⟩ := hE
    have := List.all_eq_true.1 h _ hm
    simp only at this
    cases hN with
    | returned hv =>
      split at this
      · rename_i heq
        cases heq
        cases hv
        exact ⟨rfl, hw2.below⟩
      · cases this
    | panicked _ => cases this
end Go.Ce
