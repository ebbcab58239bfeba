/- The canonical machine for closed runs: a region that draws its order, whole. -/
import Derived.Test.YtcjjhebocgbbdaaGreatCs
set_option linter.unusedSectionVars false
set_option linter.unusedVariables false
set_option linter.unusedSimpArgs false
namespace Go.Ce
open Go.RowKit (Below)

section
variable {P : Program} {w0 : World} {cok : Nat → Bool → Code → Bool} {R : CRec} {ops : Array Oper} {fl : List (Nat × Value × Option CObj)} {st : Nat → DSt} {val : Nat → Value} {a0 : CAct} {W0 : CW} {ρ0 : Ren}
  {listed : Array Bool} {a' : Act} {w : World} {ρ : Ren} {p : Nat}

/-- An allocation made ahead, in the model. -/
theorem float_step (hz : ZP P) (hw : WRel P w0 ρ W0 w) {x : Nat × Value × Option CObj} {o : Oper} (hk : FK P ops x) (ho : ops[x.1]? = some o) (hn : ρ (nameOf x.2.1) = none) (hlt : nameOf x.2.1 < W0.sz) (hobj : W0.obj (nameOf x.2.1) = x.2.2) {a : CAct} (hck : floatCk P o a x.2.1 x.2.2 = true) (e' : Operand → Value) (he' : ∀ t l c, o.op = .makeSlice t l c → VRel ρ (a.eval l) (e' l) ∧ VRel ρ (a.eval c) (e' c)) :
    ∃ v' w' ρ', (execOp e' o).run P w = .ok (.value v') w' ∧ Ext ρ ρ' ∧ (∀ i, i ≠ nameOf x.2.1 → ρ' i = ρ i) ∧ VRel ρ' x.2.1 v' ∧ WRel P w0 ρ' W0 w' ∧ o.guard = none ∧ ∀ c, o.op ≠ .defer c := by
  obtain ⟨o2, ho2, hg, hcase⟩ := hk
  rw [ho] at ho2
  cases ho2
  rcases hcase with ⟨t, z, s, b, hop, hzz, hs, hv, hob⟩ | ⟨t, b, hop, hv, hob⟩ | ⟨t, l, c, b, n, m, hop, hv⟩
  · rw [hv] at hn hlt hobj ⊢
    rw [hob] at hobj
    simp only [nameOf] at hn hlt hobj ⊢
    have hb : ∀ i, i ≠ b → (if i = b then some (⟨w.heap.size, 0, s, z.cells.size, z.cells.size⟩ : Info) else ρ i) = ρ i := fun i hi => if_neg hi
    obtain ⟨hext, hw'⟩ := hw.birth hn hlt hobj (x := ⟨w.heap.size, 0, s, z.cells.size, z.cells.size⟩) (o' := .cells z.cells t (0, 0)) rfl (by
      refine .cells hs rfl (by simp) (fun k hk => ?_) ⟨NF.zero _, fun _ => ⟨rfl, rfl⟩⟩
      have hc := (hz.rel hzz (fun i => if i = b then some (⟨w.heap.size, 0, s, z.cells.size, z.cells.size⟩ : Info) else ρ i)).cells.2 k (by simpa using hk)
      have hk : k < z.cells.size := hk
      have : cellAt .nil z.cells k = z.cells.getD k undef := by simp [cellAt, Tr.get_nil, Nat.mod_eq_of_lt hk]
      rw [this]
      simpa [Array.getD_eq_getD_getElem?, List.getD_eq_getElem?_getD] using hc)
    refine ⟨.pointer (some ⟨w.heap.size, 0, none⟩), _, _, ?_, hext, hb, .ptr ⟨rfl, ⟨w.heap.size, 0, s, z.cells.size, z.cells.size⟩, by simp, by simp⟩, hw', hg, by rw [hop]; intro c h; cases h⟩
    simp only [execOp, hop]
    exact exec_v (by simp [Instr.alloc, run_zeroValue' hzz, newVar, newRow])
  · rw [hv] at hn hlt hobj ⊢
    rw [hob] at hobj
    simp only [nameOf] at hn hlt hobj ⊢
    have hb : ∀ i, i ≠ b → (if i = b then some (⟨w.heap.size, 0, 0, 0, 0⟩ : Info) else ρ i) = ρ i := fun i hi => if_neg hi
    obtain ⟨hext, hw'⟩ := hw.birth hn hlt hobj (x := ⟨w.heap.size, 0, 0, 0, 0⟩) (o' := .map #[] 0) rfl (.map rfl trivial)
    refine ⟨.map (some w.heap.size), _, _, ?_, hext, hb, .map ⟨⟨w.heap.size, 0, 0, 0, 0⟩, by simp, rfl⟩, hw', hg, by rw [hop]; intro c h; cases h⟩
    simp only [execOp, hop]
    exact exec_v (by simp [Instr.makeMap])
  · obtain ⟨i, v, ob⟩ := x
    simp only at hv hck hn hlt hobj ⊢
    subst hv
    simp only [nameOf] at hn hlt hobj ⊢
    obtain ⟨hl, hc⟩ := he' t l c hop
    simp only [floatCk, hop, Option.any_eq_true] at hck
    obtain ⟨outs, houts, ⟨nx, W1⟩, hhead, hck⟩ := hck
    simp only [cop, hop] at houts
    obtain ⟨v', W1', hv, rfl⟩ := vwmatch houts
    simp only [List.head?_cons, Option.some.injEq, Prod.mk.injEq] at hhead
    obtain ⟨rfl, rfl⟩ := hhead
    simp only [Bool.and_eq_true] at hck
    obtain ⟨hq1, hq2⟩ := hck
    have hq1 := veq_sound 8 _ _ hq1
    have hq2 := initObj_spec hq2
    split at hv
    rotate_left
    · cases hv
    rename_i elem kl li kc ci ht hel hec
    rw [hel] at hl
    rw [hec] at hc
    generalize e1 : e' l = vl at hl
    generalize e2 : e' c = vc at hc
    cases hl
    cases hc
    obtain ⟨s, hs, hv⟩ := optB_some hv
    obtain ⟨z, hz2, hv⟩ := optB_some hv
    rw [cond_eq_ite] at hv
    split at hv
    rotate_left
    · cases hv
    rename_i hcond
    simp only [Bool.and_eq_true, decide_eq_true_eq] at hcond
    obtain ⟨⟨⟨⟨⟨c1, c2⟩, c3⟩, c4⟩, c5⟩, c6⟩ := hcond
    have c4 := Nat.le_of_ble_eq_true c4
    have c5 := Nat.eq_of_beq_eq_true c5
    have c6 : 0 < s := by have := Nat.le_of_ble_eq_true c6; omega
    simp only [Option.some.injEq, Prod.mk.injEq] at hv
    obtain ⟨rfl, rfl⟩ := hv
    cases hq1
    have hq2 : some (CObj.cells .nil (ci.toNat * s) z.cells elem) = ob := by rw [← hq2]; simp [CW.obj, CW.new, Tr.get_set]
    subst hq2
    have hb : ∀ i, i ≠ b → (if i = b then some (⟨w.heap.size, 0, s, ci.toNat * s, ci.toNat * s⟩ : Info) else ρ i) = ρ i := fun i hi => if_neg hi
    obtain ⟨hext, hw'⟩ := hw.birth hn hlt hobj (x := ⟨w.heap.size, 0, s, ci.toNat * s, ci.toNat * s⟩) (o' := .cells ((Array.range (ci.toNat * s)).map (z.cells[· % z.cells.size]!)) elem (0, 0)) rfl (by
      exact .cells hs (by simp) (by simp) (fun k hk => zeros_rel hz hz2 _ (.inr (by omega)) k hk) ⟨NF.zero _, fun _ => ⟨rfl, rfl⟩⟩)
    refine ⟨.slice (some ⟨w.heap.size, 0, none⟩) li.toNat ci.toNat, _, _, ?_, hext, hb, .slice _ ⟨rfl, ⟨w.heap.size, 0, s, ci.toNat * s, ci.toNat * s⟩, by simp, by simp⟩ (.inl rfl), hw', hg, by rw [hop]; intro c h; cases h⟩
    simp only [execOp, hop, e1, e2]
    exact exec_v (makeSlice_run ht hs hz2 c1 c2 c3 c4 w)

theorem pw_ne {α : Type} {f : α → Nat} : ∀ {l : List α}, l.Pairwise (fun x y => f x ≠ f y) → ∀ {a b : α}, a ∈ l → b ∈ l → a ≠ b → f a ≠ f b
  | [], _, _, _, h, _, _ => by cases h
  | x :: l, hp, a, b, ha, hb, hne => by
    obtain ⟨h1, h2⟩ := List.pairwise_cons.1 hp
    rcases List.mem_cons.1 ha with ea | ha' <;> rcases List.mem_cons.1 hb with eb | hb'
    · exact (hne (ea.trans eb.symm)).elim
    · rw [ea]; exact h1 b hb'
    · rw [eb]; exact (h1 a ha').symm
    · exact pw_ne h2 ha' hb' hne

variable (hz : ZP P) (hR : RS P w0 cok R) {ro' : Option Nat} {n : Nat} {Q : Exit → Act → World → Prop} {K : Act → World → Prop}
  (hst : ∀ i o, ops[i]? = some o → StepK P R ops fl i o (st i) (st (i + 1)) (val i)) (h0 : (st 0).a = a0) (hws : (st 0).ws = []) (hdr : drawOk P ops = true) (hok : opsOk a0.nt ro'.isSome ops.toList = true)
  (hfl : ∀ i, i ∈ floats P ops → ∃ x, x ∈ fl ∧ x.1 = i) (hflk : ∀ x, x ∈ fl → W0.sz ≤ nameOf x.2.1 ∧ FK P ops x) (hflp : fl.Pairwise (fun x y => nameOf x.2.1 ≠ nameOf y.2.1))
  (hwin : ∀ x, x ∈ fl → window ops x.1 (ancs ops x.1) (fun W => initObj (W.obj (nameOf x.2.1)) x.2.2) (st ops.size).ws (st ops.size).W = true)
  (hrd : ∀ i o a v, (i, o, a, v) ∈ (st ops.size).rd → window ops i (ancs ops i) (fun W => match cop P o a.eval W with | some [(.value u, _)] => veq 8 u v | _ => false) (st ops.size).ws (st ops.size).W = true)
include hz hR hst h0 hws hdr hok hfl hflk hflp hwin hrd

theorem rd_mono : ∀ (q : Nat) (i : Nat), i ≤ q → q ≤ ops.size → ∀ x, x ∈ (st i).rd → x ∈ (st q).rd
  | 0, i, h, _, x, hx => by have : i = 0 := by omega
                            subst this; exact hx
  | q + 1, i, h, hq, x, hx => by
    by_cases e : i = q + 1
    · subst e; exact hx
    · have := rd_mono q i (by omega) (by omega) x hx
      have ho : ops[q]? = some ops[q] := by simp [show q < ops.size by omega]
      cases hst q _ ho <;> (rename_i he; rw [he]; first | exact this | exact List.mem_cons_of_mem _ this)

/-- One operation that may come up. -/
theorem draw_step (h : DInv P w0 ops fl st val a0 W0 ρ0 listed a' w ρ p) {i : Nat} (hi : i ∈ Region.ready .any ops listed)
    (hK : ∀ a2 w2 ρ2 p2, DInv P w0 ops fl st val a0 W0 ρ0 (listed.setIfInBounds i true) a2 w2 ρ2 p2 → K a2 w2) : wpOpIn (fenceOf ro') n P ops Q i K a' w := by
  obtain ⟨hun0, o, ho, hall⟩ := mem_ready.1 hi
  have hilt : i < ops.size := (Array.getElem?_eq_some_iff.1 ho).1
  have hun : listed.getD i false = false := by
    have : i < listed.size := by rw [h.size]; exact hilt
    simpa [Array.getD_eq_getD_getElem?, this] using hun0
  have hpr : ∀ q, q ∈ prs ops i → listed.getD q false = true := by
    intro q hq
    simp only [prs, ho, List.mem_map, List.mem_filter] at hq
    obtain ⟨e, ⟨he1, he2⟩, rfl⟩ := hq
    exact hall e (by simpa using he1) he2
  have hoko : okOp o = true ∧ dstOk a0.nt o = true ∧ (ro' = none ∨ ∀ c, o.op ≠ .defer c) := by
    simp only [opsOk, List.all_eq_true, Bool.and_eq_true] at hok
    have hm : o ∈ ops.toList := by simpa using Array.mem_of_getElem? ho
    obtain ⟨⟨k1, k2⟩, k3⟩ := hok o hm
    refine ⟨k1, k2, ?_⟩
    simp only [Bool.or_eq_true, Bool.not_eq_true'] at k3
    rcases k3 with h1 | h1
    · left; cases ro' with
      | none => rfl
      | some _ => cases h1
    · right; intro c hc; unfold notDefer at h1; rw [hc] at h1; cases h1
  obtain ⟨hok1, hok2, hok3⟩ := hoko
  have hd := dstOk_spec hok2
  have hlook : ∀ d, d ∈ o.looksAt ops → VRel ρ ((st i).a.at d) (a'.tmps.getD d undef) := fun d hd => h.look hst h0 hdr ho hun hpr hd
  have hguard : ∀ j want, o.guard = some (j, want) → ∀ d, (ops[j]?).bind (·.dst) = some d → VRel ρ ((st i).a.at d) (a'.tmps.getD d undef) := fun j want hg d hdd =>
    hlook d (by unfold Oper.looksAt; rw [hg]; simp [hdd])
  have henv : ∀ x, x ∈ o.op.operands → okOperand x = true → VRel ρ ((st i).a.eval x) (a'.eval x) := by
    intro x hx hxo
    cases x with
    | tmp t =>
      rw [CAct.eval_tmp]
      refine hlook t ?_
      unfold Oper.looksAt
      refine List.mem_append_left _ (List.mem_filterMap.2 ⟨.tmp t, by simpa using hx, rfl⟩)
    | const v => exact .of_plain ρ 8 v hxo
    | global g => cases hxo
    | func f => exact .func (.func f) rfl (fun i hi => by simp at hi) rfl (fun i hi => by simp at hi)
  have henvF : ∀ t l c, o.op = .makeSlice t l c → ∀ x, (x = l ∨ x = c) → VRel ρ ((st i).a.eval x) (a'.eval x) := by
    intro t l c hop x hx
    refine henv x (by rw [hop]; rcases hx with rfl | rfl <;> simp [Op.operands]) ?_
    unfold okOp at hok1
    rw [hop] at hok1
    simp only [Bool.and_eq_true] at hok1
    rcases hx with rfl | rfl
    · exact hok1.1
    · exact hok1.2
  have hlater : ∀ j, i < j → j < ops.size → dstOf ops i ≠ none → dstOf ops j = dstOf ops i → listed.getD j false = false := by
    intro j h1 h2 h3 h4
    have hdi : dstOf ops i = o.dst := by simp [dstOf, ho]
    cases hdd : o.dst with
    | none => rw [hdi, hdd] at h3; exact (h3 rfl).elim
    | some t => exact h.later hst h0 hdr ho hun hdd j h1 h2 h4
  have quietK : ¬ Wr st i → ∀ v' w2 ρ2, Grow (st p).W ρ (st p).W ρ2 → VRel ρ2 (val i) v' → WRel P w0 ρ2 (st p).W w2 → K (a'.put o.dst v') w2 := by
    intro hnw v' w2 ρ2 hg hv hw2
    refine hK _ _ ρ2 p (h.next ho hd hun hpr hlater hg.1 hv h.p_le h.pw ?_ hw2 (h.grow.trans hg) ?_)
    · intro j hj hwj
      have hne : j ≠ i := fun e => hnw (e ▸ hwj)
      rw [← h.wrs j hj hwj]
      exact ⟨fun hh => hh.resolve_right hne, .inl⟩
    · intro x hx hl _
      obtain ⟨u1, u2⟩ := h.unborn x hx hl
      exact ⟨by rw [hg.2.1 _ u2]; exact u1, u2⟩
  have writeK : i = p → ∀ v' w2 ρ2, Grow (st p).W ρ (st (i + 1)).W ρ2 → VRel ρ2 (val i) v' → WRel P w0 ρ2 (st (i + 1)).W w2 → K (a'.put o.dst v') w2 := by
    intro hip v' w2 ρ2 hg hv hw2
    obtain ⟨p2, k1, k2, k3, k4, k5⟩ := st_next hst (ops.size - (i + 1)) (i + 1) (by omega)
    rw [← k5] at hg hw2
    refine hK _ _ ρ2 p2 (h.next ho hd hun hpr hlater hg.1 hv k2 k3 ?_ hw2 (h.grow.trans hg) ?_)
    · intro j hj hwj
      rw [h.wrs j hj hwj]
      constructor
      · rintro (hh | hh) <;> omega
      · intro hh
        by_cases e : j < i + 1
        · omega
        · exact (k4 j (by omega) hh hwj).elim
    · intro x hx hl _
      obtain ⟨u1, u2⟩ := h.unborn x hx hl
      exact ⟨by rw [hg.2.1 _ u2]; exact u1, Nat.lt_of_lt_of_le u2 hg.2.2⟩
  have hS : ∀ {outs : List (CNext × CW)}, cop P o (st i).a.eval (st p).W = some outs → OpSound P w0 ρ (st p).W ((execOp a'.eval o).run P w) outs := fun hc => op_sound hz hok1 (fun _ => rfl) henv h.world hc
  have quietOp : ¬ Wr st i → cop P o (st i).a.eval (st p).W = some [(.value (val i), (st p).W)] → o.wpIn (fenceOf ro') n P a' w K Q := by
    intro hnw hc
    refine oper_wpIn hR (hS hc) hok3 ?_ ?_ ?_ ?_ ?_ ?_ ?_
    · intro v v' W1 ρ1 w1 hm hg hv hw1
      simp only [List.mem_singleton, Prod.mk.injEq, CNext.value.injEq] at hm
      obtain ⟨rfl, rfl⟩ := hm
      exact quietK hnw v' w1 ρ1 hg hv hw1
    all_goals (intros; rename_i hm; first | (simp at hm; done) | skip)
    all_goals (intros; simp_all)
  unfold wpOpIn
  rw [ho]
  simp only
  cases hst i o ho with
  | float ob hm hck he =>
    obtain ⟨u1, u2⟩ := h.unborn _ hm hun
    have hob := initObj_spec (h.at_hand hst h0 hdr ho hun hpr hws (hwin _ hm))
    obtain ⟨hge, hfk⟩ := hflk _ hm
    obtain ⟨v', w', ρ', hrun, hext, hsame, hv, hw', hg, hnd⟩ := float_step hz h.world hfk ho u1 u2 hob hck a'.eval (fun t l c hop => ⟨henvF t l c hop l (.inl rfl), henvF t l c hop c (.inr rfl)⟩)
    have hwt : Region.wanted o (yielded ops a'.tmps) = true := by unfold Region.wanted; rw [hg]
    rw [hwt, if_pos rfl]
    refine ⟨fun f _ => fenceOf_fn _ f, ?_⟩
    rw [Oper.semAt_eq _ _ _ hnd, hrun]
    have hnw : ¬ Wr st i := by
      rcases (hst i o ho).wr with ⟨_, _, hno⟩ | ⟨hn, _⟩
      · exact (hno _ hm rfl).elim
      · exact hn
    refine hK _ _ ρ' p (h.next ho hd hun hpr hlater hext hv h.p_le h.pw ?_ hw' ⟨h.grow.1.trans hext, fun j hj => ?_, h.grow.2.2⟩ ?_)
    · intro j hj hwj
      have hne : j ≠ i := fun e => hnw (e ▸ hwj)
      rw [← h.wrs j hj hwj]
      exact ⟨fun hh => hh.resolve_right hne, .inl⟩
    · have hge' : W0.sz ≤ nameOf (val i) := hge
      rw [hsame j (fun e => by have e : j = nameOf (val i) := e; omega)]; exact h.grow.2.1 j hj
    · intro x hx hl hxi
      obtain ⟨u1, u2⟩ := h.unborn x hx hl
      have hne := pw_ne hflp hx hm (fun e => hxi (by rw [e]))
      exact ⟨by rw [hsame _ hne]; exact u1, u2⟩
  | off hno hwt hv he =>
    rw [wanted_of hwt hguard, if_neg (by simp)]
    have hnw : ¬ Wr st i := by unfold Wr; rw [he]; intro hh; have := congrArg List.length hh; simp at this
    exact ⟨fun f _ => fenceOf_fn _ f, quietK hnw undef w ρ (.refl _) (by rw [hv]; exact .undef _) h.world⟩
  | pure W1 hno hwt hp hc he =>
    rw [wanted_of hwt hguard, if_pos rfl]
    have hnw : ¬ Wr st i := by unfold Wr; rw [he]; intro hh; have := congrArg List.length hh; simp at this
    exact quietOp hnw (cop_pure hp hc _)
  | read W1 hno hwt hp hc he =>
    rw [wanted_of hwt hguard, if_pos rfl]
    have hnw : ¬ Wr st i := by unfold Wr; rw [he]; intro hh; have := congrArg List.length hh; simp at this
    refine quietOp hnw ?_
    have hmem : (i, o, (st i).a, val i) ∈ (st ops.size).rd := rd_mono hz hR hst h0 hws hdr hok hfl hflk hflp hwin hrd ops.size (i + 1) (by omega) (Nat.le_refl _) _ (by rw [he]; simp)
    have hk := h.at_hand hst h0 hdr ho hun hpr hws (hrd i o _ _ hmem)
    split at hk
    · rename_i u W2 hc2
      rw [hc2, veq_sound 8 _ _ hk, cop_read hp hc2]
    · cases hk
  | value W1 hno hwt hwr hc he =>
    rw [wanted_of hwt hguard, if_pos rfl]
    have hip := h.isNext hst h0 hdr hfl ho hun hpr (by unfold Wr; rw [he]) hwr hno
    have hW1 : (st (i + 1)).W = W1 := by rw [he]
    have hc' : cop P o (st i).a.eval (st p).W = some [(.value (val i), W1)] := by rw [← hip]; exact hc
    refine oper_wpIn hR (hS hc') hok3 ?_ ?_ ?_ ?_ ?_ ?_ ?_
    · intro v v' W2 ρ1 w1 hm hg hv hw1
      simp only [List.mem_singleton, Prod.mk.injEq, CNext.value.injEq] at hm
      obtain ⟨rfl, rfl⟩ := hm
      exact writeK hip v' w1 ρ1 (by rw [hW1]; exact hg) hv (by rw [hW1]; exact hw1)
    all_goals (intros; simp_all)
  | skip W1 hno hwt hwr hc hv0 he =>
    rw [wanted_of hwt hguard, if_pos rfl]
    have hip := h.isNext hst h0 hdr hfl ho hun hpr (by unfold Wr; rw [he]) hwr hno
    have hW1 : (st (i + 1)).W = W1 := by rw [he]
    have hc' : cop P o (st i).a.eval (st p).W = some [(.skip, W1)] := by rw [← hip]; exact hc
    refine oper_wpIn hR (hS hc') hok3 ?_ ?_ ?_ ?_ ?_ ?_ ?_
    · intros; simp_all
    · intro W2 ρ1 w1 hm hg hw1
      simp only [List.mem_singleton, Prod.mk.injEq, true_and] at hm
      subst hm
      exact writeK hip undef w1 ρ1 (by rw [hW1]; exact hg) (by rw [hv0]; exact .undef _) (by rw [hW1]; exact hw1)
    all_goals (intros; simp_all)
  | call f args W1 W2 m hno hwt hwr hc hm1 hm2 he =>
    rw [wanted_of hwt hguard, if_pos rfl]
    have hip := h.isNext hst h0 hdr hfl ho hun hpr (by unfold Wr; rw [he]) hwr hno
    have hW1 : (st (i + 1)).W = W2 := by rw [he]
    have hc' : cop P o (st i).a.eval (st p).W = some [(.enter f args, W1)] := by rw [← hip]; exact hc
    refine oper_wpIn hR (hS hc') hok3 ?_ ?_ ?_ ?_ ?_ ?_ ?_
    · intros; simp_all
    · intros; simp_all
    · intros; simp_all
    · intro f2 args2 W3 hm
      simp only [List.mem_singleton, Prod.mk.injEq, CNext.enter.injEq] at hm
      obtain ⟨⟨rfl, rfl⟩, rfl⟩ := hm
      refine ⟨m, hm1, fun {ρ1} hg e2 w2 hE => ?_⟩
      obtain ⟨v', ρ2, rfl, hg2, hv, hw2⟩ := merged_sound hm2 hE
      refine ⟨fun v2 he2 => ?_, fun c' he2 => by cases he2⟩
      cases he2
      exact writeK hip v' w2 ρ2 (by rw [hW1]; exact hg.trans hg2) hv (by rw [hW1]; exact hw2)
    all_goals (intros; simp_all)
  | round l args W1 W2 m hno hwt hwr hc hm1 hm2 he =>
    rw [wanted_of hwt hguard, if_pos rfl]
    have hip := h.isNext hst h0 hdr hfl ho hun hpr (by unfold Wr; rw [he]) hwr hno
    have hW1 : (st (i + 1)).W = W2 := by rw [he]
    have hc' : cop P o (st i).a.eval (st p).W = some [(.round l args, W1)] := by rw [← hip]; exact hc
    refine oper_wpIn hR (hS hc') hok3 ?_ ?_ ?_ ?_ ?_ ?_ ?_
    · intros; simp_all
    · intros; simp_all
    · intros; simp_all
    · intros; simp_all
    · intro l2 args2 W3 hm
      simp only [List.mem_singleton, Prod.mk.injEq, CNext.round.injEq] at hm
      obtain ⟨⟨rfl, rfl⟩, rfl⟩ := hm
      refine ⟨m, hm1, fun {ρ1} hg e2 w2 hE => ?_⟩
      obtain ⟨v', ρ2, rfl, hg2, hv, hw2⟩ := merged_sound hm2 hE
      refine ⟨fun v2 he2 => ?_, fun c' he2 => by cases he2⟩
      cases he2
      exact writeK hip v' w2 ρ2 (by rw [hW1]; exact hg.trans hg2) hv (by rw [hW1]; exact hw2)
    all_goals (intros; simp_all)
end
end Go.Ce
