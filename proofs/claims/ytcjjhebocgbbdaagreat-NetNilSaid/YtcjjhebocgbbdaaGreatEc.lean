/- The frame of a law: what is left of it is the canonical machine's run at arguments that are laid out. -/
import Derived.Test.YtcjjhebocgbbdaaGreatEb
import Derived.Handed
import Derived.JoinedOf
set_option linter.unusedSectionVars false
set_option linter.unusedVariables false
set_option linter.unusedSimpArgs false
namespace Go.Ce
open Go.RowKit Go.ChangeShapes Go.WideShapes

section
variable {P : Program}

/-- A value out of its cells. -/
def argV (P : Program) (t : TypeId) (cs : List Value) : Value :=
  match P.underlying t with
  | some (.struct _) => .agg cs.toArray
  | some (.array _ _) => .agg cs.toArray
  | _ => cs.getD 0 undef

def CTs (P : Program) : List TypeId → CW → List Value → Prop
  | [], _, [] => True
  | t :: ts, W, v :: vs => (∃ cs, v = argV P t cs ∧ CT P 20 t W cs) ∧ CTs P ts W vs
  | _, _, _ => False

theorem CTs.mono {W W' : CW} (hk : Keep W W') : ∀ {ts : List TypeId} {vs : List Value}, CTs P ts W vs → CTs P ts W' vs
  | [], [], h => h
  | t :: ts, v :: vs, h => ⟨let ⟨cs, h1, h2⟩ := h.1; ⟨cs, h1, h2.mono hk⟩, CTs.mono hk h.2⟩
  | [], _ :: _, h => h.elim
  | _ :: _, [], h => h.elim

theorem argV_rel {ρ : Ren} {w : World} {t : TypeId} {v : Value} {vs : List Value} (hok : okT P 20 t = true) {base : Nat} (hval : Value.okWide P w .any base t v) (h : LRel ρ vs v.cells.toList) : VRel ρ (argV P t vs) v := by
  unfold argV
  unfold okT at hok
  unfold Value.okWide at hval
  have one : v.cells = #[v] → VRel ρ (vs.getD 0 undef) v := fun e => by
    rw [e] at h
    have := h.2 0 (by rw [h.1]; simp)
    simpa using this
  split at hok <;> (try (rename_i ht; rw [ht] at hval ⊢; simp only at hval ⊢))
  · refine one ?_
    unfold Cell.okWide Cell.ok at hval; rw [ht] at hval
    cases v <;> first | rfl | (simp at hval; done)
  · refine one ?_
    unfold Cell.okWide Cell.ok at hval; rw [ht] at hval
    cases v <;> first | rfl | (simp at hval; done)
  · refine one ?_
    unfold Cell.okWide Cell.ok at hval; rw [ht] at hval
    cases v <;> first | rfl | (simp at hval; done)
  · refine one ?_
    unfold Cell.okWide Cell.ok at hval; rw [ht] at hval
    cases v <;> first | rfl | (simp at hval; done)
  · obtain ⟨cs, rfl, _⟩ := hval
    have h : LRel ρ vs cs.toList := h
    exact .agg' (by simpa using h)
  · obtain ⟨cs, rfl, _⟩ := hval
    have h : LRel ρ vs cs.toList := h
    exact .agg' (by simpa using h)
  · cases hok

theorem place_all {H : Type} {enc : TypeId × Value → H} {w : World} {held : Bool} {base : Nat} : ∀ {ts : List TypeId} {args : List Value} {ds : List (DataW H)} {ps : List MemPlace}, (∀ t, t ∈ ts → okT P 20 t = true) → DataW.TrodAll enc P w 0 (fun _ => true) held ts args ds ps →
    (∀ (j : Nat) t v, ts[j]? = some t → args[j]? = some v → Value.okWide P w .any base t v) → ∀ ρ W, WRel P w ρ W w → Laid P w ρ W args (CTs P ts)
  | [], args, ds, ps, _, h, _, ρ, W, hw => by
    obtain ⟨rfl, rfl, rfl⟩ := trodAll_nil h
    exact ⟨[], ρ, W, .refl _, .refl _, .nil _, hw, trivial⟩
  | t :: ts, args, ds, ps, hok, h, hval, ρ, W, hw => by
    obtain ⟨v, vs, d, ds', p, q, rfl, rfl, rfl, h1, h2⟩ := trodAll_cons h
    obtain ⟨fuel, h1⟩ := h1
    obtain ⟨v1, ρ1, W1, g1, k1, l1, w1, c1⟩ := place 20 t fuel _ _ (hok t (by simp)) h1 ρ W hw
    have hv := argV_rel (hok t (by simp)) (hval 0 t v rfl rfl) l1
    obtain ⟨v2, ρ2, W2, g2, k2, l2, w2, c2⟩ := place_all (fun t ht => hok t (by simp [ht])) h2 (fun j t v hj hv => hval (j + 1) t v (by simpa using hj) (by simpa using hv)) ρ1 W1 w1
    exact ⟨argV P t v1 :: v2, ρ2, W2, g1.trans g2, k1.trans k2, .cons (hv.mono g2.ext) l2, w2, ⟨⟨v1, rfl, c1.mono k2⟩, c2⟩⟩

theorem trodAll_stays {H : Type} {enc : TypeId × Value → H} {W W' : World} {sp' : Nat → Bool} (hl : laidOutB P = true) : ∀ {ts : List TypeId} {args : List Value} {ds : List (DataW H)} {ps : List MemPlace}, (∀ t, t ∈ ts → P.readableRec t = true ∧ t < P.types.size) →
    DataW.TrodAll enc P W 0 (fun _ => true) true ts args ds ps → (∀ p ∈ ps, W.sameAt W' p) → (∀ p ∈ ps, sp' p.block = true) → DataW.TrodAll enc P W' 0 sp' true ts args ds ps
  | [], args, ds, ps, _, h, _, _ => by
    obtain ⟨rfl, rfl, rfl⟩ := trodAll_nil h
    exact rfl
  | t :: ts, args, ds, ps, hts, h, hs, hp => by
    obtain ⟨v, vs, d, ds', p, q, rfl, rfl, rfl, h1, h2⟩ := trodAll_cons h
    exact ⟨p, q, WideElems.Trod_stays hl (hts t (by simp)).1 (hts t (by simp)).2 h1 (fun x hx => hs x (by simp [hx])) (fun x hx => hp x (by simp [hx])),
      trodAll_stays hl (fun t ht => hts t (by simp [ht])) h2 (fun x hx => hs x (by simp [hx])) (fun x hx => hp x (by simp [hx])), rfl⟩

theorem trodAll_length {H : Type} {enc : TypeId × Value → H} {W : World} {sp : Nat → Bool} {held : Bool} : ∀ {ts : List TypeId} {args : List Value} {ds : List (DataW H)} {ps : List MemPlace}, DataW.TrodAll enc P W 0 sp held ts args ds ps → ds.length = ts.length
  | [], args, ds, ps, h => by
    obtain ⟨rfl, rfl, rfl⟩ := trodAll_nil h
    rfl
  | t :: ts, args, ds, ps, h => by
    obtain ⟨v, vs, d, ds', p, q, rfl, rfl, rfl, h1, h2⟩ := trodAll_cons h
    simp [trodAll_length h2]

/-- What a row asks behind a law that hands back true and leaves what was there. -/
theorem law_post (hl : laidOutB P = true) {F : FuncId} {fn : Func} {s : ChangeSpec} {apart fresh handsOn again : Bool} (hvars : s.vars = [])
    (hspec : ∀ (H : Type) (ds : List (DataW H)), ds.length = fn.params.size → s.fn H ds = { results := [.lit (.bool true)], args := ds })
    (hts : ∀ t, t ∈ fn.params.toList → P.readableRec t = true ∧ t < P.types.size) {tb : TypeId} (hres : fn.resultTypes = #[tb]) (hb : P.underlying tb = some .bool)
    {H : Type} {enc : TypeId × Value → H} {W : World} {args : Array Value} {ds gs : List (DataW H)} {before : List MemPlace} (hW : DataW.Whole enc P fn.params.toList s.vars apart W args.toList ds gs before)
    (hc : Calls P F args W fun e w' => e = .returned (.bool true) ∧ Below W.heap.size W w') :
    Calls P F args W fun e W' => ∃ v, e = .returned v ∧ s.post enc P fn apart fresh handsOn again W args v W' := by
  have hW' := hW
  obtain ⟨p, q, hA, hV, rfl, hfz, hnd⟩ := hW
  rw [hvars] at hV
  obtain ⟨rfl, rfl⟩ := trodVars_none hV
  refine hc.mono fun e w' hE => ?_
  obtain ⟨rfl, hbel⟩ := hE
  refine ⟨_, rfl, ds, [], p ++ [], [], p, [], hW', ?_, ?_, ?_, ?_, fun _ => ?_⟩
  all_goals have hlen : ds.length = fn.params.size := by simpa using trodAll_length hA
  all_goals simp only [List.append_nil] at hW' hfz hnd ⊢
  · rw [hspec H ds hlen, hres]
    exact trodAll_cons_mk (shut_bool hb true) trodAll_mk0
  · rw [hspec H ds hlen]
    have hlt := hW'.lt
    exact trodAll_stays hl hts hA (fun x hx => hbel.same (hlt x hx)) (fun x hx => by simpa using hlt x hx)
  · rw [hspec H ds hlen, hvars]; exact rfl
  · exact hbel.frame _
  · have hlt := hW'.lt
    refine ⟨ok_one hres rfl (Go.RowKit.okWide_bool_mk hb _), [.lit (.bool true)] ++ ds, [], [] ++ p ++ [], ⟨[] ++ p, [], trodAll_append (trodAll_stays (sp' := fun _ => true) hl hts hA (fun x hx => hbel.same (hlt x hx)) (fun _ _ => rfl)) (by rw [hres]; exact trodAll_cons_mk (shut_bool hb true) trodAll_mk0), by rw [hvars]; exact rfl, rfl, ?_, ?_⟩, ?_⟩
    · intro b off hp
      have hp : MemPlace.cell b off ∈ p := by simpa using hp
      rw [hbel.frozen (p := ⟨b, off, none⟩) (hlt _ hp)]
      exact hfz b off hp
    · intro ha; simpa using hnd ha
    · intro x hx _; simpa using hx

def wordV : Value → Bool
  | .bool _ | .int _ _ | .string _ => true
  | .tuple a => Nat.beq a.size 0
  | _ => false

/-- Types without slices. -/
def plainT (P : Program) : Nat → TypeId → Bool
  | 0, _ => false
  | n + 1, t => match P.underlying t with
    | some .bool => true
    | some (.int _) => true
    | some .string => true
    | some (.struct fs) => layOk P (plainT P n) fs.toList 0 (P.cellsOf t)
    | some (.array k e) => plainT P n e && Nat.beq (P.cellsOf t) (k * P.cellsOf e)
    | _ => false

theorem plain_fields {n : Nat} {vs : List Value} {total : Nat} (hvs : vs.length = total) : ∀ (fs : List Field) (off : Nat), layOk P (plainT P n) fs off total = true →
    (∀ f, f ∈ fs → plainT P n f.type = true → ∀ v, v ∈ (vs.drop f.offset).take (P.cellsOf f.type) → wordV v = true) → ∀ v, v ∈ vs.drop off → wordV v = true
  | [], off, h, _, v, hv => by
    have := Nat.eq_of_beq_eq_true h
    rw [List.drop_eq_nil_of_le (by omega)] at hv
    cases hv
  | g :: fs, off, h, hp, v, hv => by
    simp only [layOk, Bool.and_eq_true] at h
    have h1 := Nat.eq_of_beq_eq_true h.1.1
    have e : vs.drop off = (vs.drop g.offset).take (P.cellsOf g.type) ++ vs.drop (off + P.cellsOf g.type) := by
      rw [h1, ← List.drop_drop, List.take_append_drop]
    rw [e] at hv
    rcases List.mem_append.1 hv with hv | hv
    · exact hp g (by simp) h.1.2 v hv
    · exact plain_fields hvs fs _ h.2 (fun f hf => hp f (by simp [hf])) v hv

theorem plain_cells {W : CW} : ∀ {n : Nat} {t : TypeId} {vs : List Value}, plainT P n t = true → CT P n t W vs → (∀ W', CT P n t W' vs) ∧ ∀ v, v ∈ vs → wordV v = true := by
  intro n
  induction n with
  | zero => intro t vs h; cases h
  | succ n ih =>
    intro t vs h hc
    simp only [plainT] at h
    split at h
    · rename_i ht
      simp only [CT, ht] at hc ⊢
      obtain ⟨b, rfl⟩ := hc
      exact ⟨fun _ => ⟨b, rfl⟩, fun v hv => by simp at hv; subst hv; rfl⟩
    · rename_i k ht
      simp only [CT, ht] at hc ⊢
      obtain ⟨x, rfl, hw⟩ := hc
      exact ⟨fun _ => ⟨x, rfl, hw⟩, fun v hv => by simp at hv; subst hv; rfl⟩
    · rename_i ht
      simp only [CT, ht] at hc ⊢
      obtain ⟨x, rfl, hw⟩ := hc
      exact ⟨fun _ => ⟨x, rfl, hw⟩, fun v hv => by simp at hv; subst hv; rfl⟩
    · rename_i fs ht
      simp only [CT, ht] at hc ⊢
      obtain ⟨hl, hf⟩ := hc
      have hmem := (layOk_le h).2
      have hpt : ∀ {fs : List Field} {off total : Nat}, layOk P (plainT P n) fs off total = true → ∀ f, f ∈ fs → plainT P n f.type = true := by
        intro fs
        induction fs with
        | nil => intro off total _ f hf; cases hf
        | cons g fs ihf =>
          intro off total h f hf
          simp only [layOk, Bool.and_eq_true] at h
          rcases List.mem_cons.1 hf with rfl | hf
          · exact h.1.2
          · exact ihf h.2 f hf
      refine ⟨fun W' => ⟨hl, fun f hf' => (ih (hpt h f hf') (hf f hf')).1 W'⟩, fun v hv => ?_⟩
      exact plain_fields hl fs.toList 0 h (fun f hf' hpf v hv => (ih hpf (hf f hf')).2 v hv) v (by simpa using hv)
    · rename_i k e ht
      simp only [Bool.and_eq_true] at h
      have htot := Nat.eq_of_beq_eq_true h.2
      simp only [CT, ht] at hc ⊢
      obtain ⟨hl, hf⟩ := hc
      refine ⟨fun W' => ⟨hl, fun i hi => (ih h.1 (hf i hi)).1 W'⟩, fun v hv => ?_⟩
      obtain ⟨j, hj, rfl⟩ := List.getElem_of_mem hv
      have hs : 0 < P.cellsOf e := by
        rcases Nat.eq_zero_or_pos (P.cellsOf e) with h0 | h0
        · rw [h0] at htot; omega
        · exact h0
      have h1 : j / P.cellsOf e < k := Nat.div_lt_of_lt_mul (by rw [Nat.mul_comm]; omega)
      refine (ih h.1 (hf _ h1)).2 _ ?_
      have h2 : j % P.cellsOf e < P.cellsOf e := Nat.mod_lt _ hs
      have e1 : j / P.cellsOf e * P.cellsOf e + j % P.cellsOf e = j := by rw [Nat.mul_comm]; exact Nat.div_add_mod j _
      refine List.mem_iff_getElem?.2 ⟨j % P.cellsOf e, ?_⟩
      rw [List.getElem?_take, if_pos h2, List.getElem?_drop, e1]
      simp [hj]
    · cases h

theorem plain_one {ρ : Ren} {v v' : Value} (h : wordV v = true) (hv : VRel ρ v v') : v' = v := by
  cases v <;> first | (cases h; done) | (cases hv; rfl) | skip
  rename_i a
  have h : a.size = 0 := Nat.eq_of_beq_eq_true h
  have h : a = #[] := Array.eq_empty_of_size_eq_zero h
  subst h
  obtain ⟨x', rfl, hl⟩ := hv.tuple_inv
  have := hl.1
  congr 1
  exact Array.eq_empty_of_size_eq_zero (by simpa using this.symm)
theorem word_plain {v : Value} (h : wordV v = true) (n : Nat) : plainV (n + 1) v = true := by
  cases v <;> first | (cases h; done) | rfl | skip
  rename_i a
  have h : a.size = 0 := Nat.eq_of_beq_eq_true h
  have h : a = #[] := Array.eq_empty_of_size_eq_zero h
  subst h
  rfl

theorem plain_list {ρ : Ren} : ∀ {vs vs' : List Value}, (∀ v, v ∈ vs → wordV v = true) → LRel ρ vs vs' → vs' = vs
  | [], vs', _, h => List.length_eq_zero_iff.1 h.1.symm
  | v :: vs, [], _, h => by have := h.1; simp at this
  | v :: vs, v' :: vs', hp, h => by
    rw [plain_one (hp v (by simp)) h.head, plain_list (fun v hv => hp v (by simp [hv])) h.tail]

theorem argV_plain {ρ : Ren} {t : TypeId} {cs : List Value} {v' : Value} (hp : ∀ v, v ∈ cs → wordV v = true) (h : VRel ρ (argV P t cs) v') : v' = argV P t cs ∧ plainV 8 (argV P t cs) = true := by
  have agg : ∀ v', VRel ρ (.agg cs.toArray) v' → v' = .agg cs.toArray ∧ plainV 8 (.agg cs.toArray) = true := by
    intro v' h
    obtain ⟨x', rfl, hl⟩ := h.agg_inv
    have := plain_list (by simpa using hp) hl
    refine ⟨?_, ?_⟩
    · congr 1
      apply Array.ext'
      simpa using this
    · simp only [plainV, List.all_eq_true]
      intro v hv
      exact word_plain (hp v (by simpa using hv)) 6
  unfold argV at h ⊢
  split at h
  · exact agg _ h
  · exact agg _ h
  · have h1 : wordV (cs.getD 0 undef) = true := by
      cases cs with
      | nil => rfl
      | cons v cs => exact hp v (by simp)
    exact ⟨plain_one h1 h, word_plain h1 7⟩

theorem plain_args {ρ : Ren} {W : CW} : ∀ {ts : List TypeId} {vs args : List Value}, (∀ t, t ∈ ts → plainT P 20 t = true) → CTs P ts W vs → LRel ρ vs args → args = vs ∧ vs.all (plainV 8) = true ∧ CTs P ts (W0 0) vs
  | [], [], args, _, _, h => ⟨List.length_eq_zero_iff.1 h.1.symm, rfl, trivial⟩
  | t :: ts, v :: vs, [], _, _, h => by have := h.1; simp at this
  | t :: ts, v :: vs, a :: args, hp, hc, h => by
    obtain ⟨⟨cs, rfl, hct⟩, hcs⟩ := hc
    obtain ⟨h1, h2⟩ := plain_cells (hp t (by simp)) hct
    obtain ⟨e1, e2⟩ := argV_plain h2 h.head
    obtain ⟨e3, e4, e5⟩ := plain_args (fun t ht => hp t (by simp [ht])) hcs h.tail
    exact ⟨by rw [e1, e3], by simp only [List.all_cons, e2, e4, Bool.and_self], ⟨⟨cs, rfl, h1 _⟩, e5⟩⟩
  | [], _ :: _, _, _, h, _ => h.elim
  | _ :: _, [], _, _, h, _ => h.elim

/-- **THE FRAME, ARGUMENTS WITHOUT SLICES.** -/
theorem law_plain (hz : ZP P) (hmix : P.follows .mixedOrders = true) (hEN : EN P) {L : List FuncId} (hCK : CK P L) (hl : laidOutB P = true) {F : FuncId} {fn : Func} {s : ChangeSpec} {apart fresh handsOn again : Bool} (hvars : s.vars = [])
    (hspec : ∀ (H : Type) (ds : List (DataW H)), ds.length = fn.params.size → s.fn H ds = { results := [.lit (.bool true)], args := ds })
    (hts : (fn.params.toList.all fun t => P.readableRec t && okT P 20 t && plainT P 20 t && decide (t < P.types.size)) = true) {tb : TypeId} (hres : fn.resultTypes = #[tb]) (hb : P.underlying tb = some .bool)
    (hrun : ∀ (vs : List Value), CTs P fn.params.toList (W0 0) vs → ∃ n, allTrue ((evN P L n).call F vs (W0 0)) = true)
    {H : Type} {enc : TypeId × Value → H} (W : World) (base : Nat) (args : Array Value) (ds gs : List (DataW H)) (before : List MemPlace)
    (hval : ∀ (j : Nat) t v, fn.params[j]? = some t → args[j]? = some v → Value.okWide P W .any base t v) (hW : DataW.Whole enc P fn.params.toList s.vars apart W args.toList ds gs before) :
    Calls P F args W fun e W' => ∃ v, e = .returned v ∧ s.post enc P fn apart fresh handsOn again W args v W' := by
  have hts' : ∀ t, t ∈ fn.params.toList → P.readableRec t = true ∧ okT P 20 t = true ∧ plainT P 20 t = true ∧ t < P.types.size := fun t ht => by
    have := List.all_eq_true.1 hts t ht
    simp only [Bool.and_eq_true, decide_eq_true_eq] at this
    exact ⟨this.1.1.1, this.1.1.2, this.1.2, this.2⟩
  refine law_post hl hvars hspec (fun t ht => ⟨(hts' t ht).1, (hts' t ht).2.2.2⟩) hres hb hW ?_
  obtain ⟨p, q, hA, _, _, _, _⟩ := hW
  have hw : WRel P W (fun _ => none) (W0 0) W := ⟨(fun i x hx => by cases hx), (fun i o ho => by cases ho), (fun i o x ho => by cases ho), (fun i j o u x y ho => by cases ho), Below.refl' W⟩
  obtain ⟨vs, ρ, W1, _, _, hvs, hw1, hct⟩ := place_all (fun t ht => (hts' t ht).2.1) hA (fun j t v hj hv => hval j t v (by simpa using hj) (by simpa using hv)) _ _ hw
  obtain ⟨e1, e2, e3⟩ := plain_args (fun t ht => (hts' t ht).2.2.1) hct hvs
  obtain ⟨n, hn⟩ := hrun vs e3
  have e4 : args = vs.toArray := by apply Array.ext'; simpa using e1
  rw [e4]
  exact closed_true hz hmix hEN hCK hn e2 W

/-- **THE FRAME.** -/
theorem law_frame (hz : ZP P) (hmix : P.follows .mixedOrders = true) (hEN : EN P) {L : List FuncId} (hCK : CK P L) (hl : laidOutB P = true) {F : FuncId} {fn : Func} {s : ChangeSpec} {apart fresh handsOn again : Bool} (hvars : s.vars = [])
    (hspec : ∀ (H : Type) (ds : List (DataW H)), ds.length = fn.params.size → s.fn H ds = { results := [.lit (.bool true)], args := ds })
    (hts : (fn.params.toList.all fun t => P.readableRec t && okT P 20 t && decide (t < P.types.size)) = true) {tb : TypeId} (hres : fn.resultTypes = #[tb]) (hb : P.underlying tb = some .bool)
    (hrun : ∀ (vs : List Value) (W : CW), CTs P fn.params.toList W vs → (∀ i o, W.obj i = some o → i < W.sz) → ∃ n, allTrue ((evN P L n).call F vs W) = true)
    {H : Type} {enc : TypeId × Value → H} (W : World) (base : Nat) (args : Array Value) (ds gs : List (DataW H)) (before : List MemPlace)
    (hval : ∀ (j : Nat) t v, fn.params[j]? = some t → args[j]? = some v → Value.okWide P W .any base t v) (hW : DataW.Whole enc P fn.params.toList s.vars apart W args.toList ds gs before) :
    Calls P F args W fun e W' => ∃ v, e = .returned v ∧ s.post enc P fn apart fresh handsOn again W args v W' := by
  have hts' : ∀ t, t ∈ fn.params.toList → P.readableRec t = true ∧ okT P 20 t = true ∧ t < P.types.size := fun t ht => by
    have := List.all_eq_true.1 hts t ht
    simp only [Bool.and_eq_true, decide_eq_true_eq] at this
    exact ⟨this.1.1, this.1.2, this.2⟩
  refine law_post hl hvars hspec (fun t ht => ⟨(hts' t ht).1, (hts' t ht).2.2⟩) hres hb hW ?_
  obtain ⟨p, q, hA, _, _, _, _⟩ := hW
  have hw : WRel P W (fun _ => none) (W0 0) W := ⟨(fun i x hx => by cases hx), (fun i o ho => by cases ho), (fun i o x ho => by cases ho), (fun i j o u x y ho => by cases ho), Below.refl' W⟩
  obtain ⟨vs, ρ, W1, _, _, hvs, hw1, hct⟩ := place_all (fun t ht => (hts' t ht).2.1) hA (fun j t v hj hv => hval j t v (by simpa using hj) (by simpa using hv)) _ _ hw
  obtain ⟨n, hn⟩ := hrun vs W1 hct (fun i o ho => hw1.top i o ho)
  cases ho : (evN P L n).call F vs W1 with
  | none => rw [ho] at hn; cases hn
  | some outs =>
    rw [ho] at hn
    obtain ⟨_, hc⟩ := (rs_all (w0 := W) hz hmix hEN hCK n).call ho hvs hw1
    refine callsIn_wide.1 ((hc 0).mono fun e w' hE => ?_)
    obtain ⟨e0, W2, ρ2, hm, _, hN, hw2⟩ := hE
    have := List.all_eq_true.1 hn _ hm
    simp only at this
    cases hN with
    | panicked _ => cases this
    | returned hv =>
      split at this
      · rename_i heq
        cases heq
        cases hv
        exact ⟨rfl, hw2.below⟩
      · cases this
end
end Go.Ce
