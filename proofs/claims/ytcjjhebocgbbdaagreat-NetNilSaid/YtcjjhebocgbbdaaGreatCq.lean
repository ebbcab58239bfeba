/- The canonical machine for closed runs: regions that draw their order: the plain part. -/
import Derived.Test.YtcjjhebocgbbdaaGreatCp
set_option linter.unusedSectionVars false
set_option linter.unusedVariables false
set_option linter.unusedSimpArgs false
namespace Go.Ce
open Go.RowKit (Below)

theorem memN_iff {l : List Nat} {i : Nat} : memN l i = true ↔ i ∈ l := by
  simp only [memN, List.any_eq_true]
  constructor
  · rintro ⟨x, hx, h⟩; have := Nat.eq_of_beq_eq_true h; subst this; exact hx
  · intro h; exact ⟨i, h, by simp⟩

theorem addNew_mem : ∀ {xs l : List Nat} {x : Nat}, x ∈ addNew l xs → x ∈ l ∨ x ∈ xs
  | [], l, x, h => .inl h
  | y :: ys, l, x, h => by
    simp only [addNew] at h
    rcases addNew_mem h with h | h
    · rw [cond_eq_ite] at h
      split at h
      · exact .inl h
      · rcases List.mem_append.1 h with h | h
        · exact .inl h
        · right; rw [List.mem_singleton.1 h]; simp
    · exact .inr (by simp [h])

theorem clos_all {ops : Array Oper} {L : Nat → Prop} (hc : ∀ i, L i → ∀ p, p ∈ prs ops i → L p) : ∀ (f : Nat) (l : List Nat), (∀ x, x ∈ l → L x) → ∀ x, x ∈ clos ops f l → L x
  | 0, l, h, x, hx => h x hx
  | f + 1, l, h, x, hx => by
    simp only [clos, cond_eq_ite] at hx
    split at hx
    · exact h x hx
    · refine clos_all hc f _ (fun y hy => ?_) x hx
      rcases addNew_mem hy with hy | hy
      · exact h y hy
      · obtain ⟨z, hz, hyz⟩ := List.mem_flatMap.1 hy
        exact hc z (h z hz) y hyz

/-- What is required of an operation has been done, once the operation may come up. -/
theorem ancs_all {ops : Array Oper} {L : Nat → Prop} (hc : ∀ i, L i → ∀ p, p ∈ prs ops i → L p) {i : Nat} (hi : ∀ p, p ∈ prs ops i → L p) {j : Nat} (h : memN (ancs ops i) j = true) : L j :=
  clos_all hc _ _ hi j (memN_iff.1 h)

section TT
variable (dst : Nat → Option Tmp) (val : Nat → Value) (base : Nat → Value)

/-- The slots, when the operations in L are done. -/
def TT (L : Nat → Bool) : Nat → Nat → Value
  | 0, d => base d
  | k + 1, d => if L k = true ∧ dst k = some d then val k else TT L k d

variable {dst val base}
theorem TT_congr {L L' : Nat → Bool} {d : Nat} : ∀ {k : Nat}, (∀ j, j < k → dst j = some d → L j = L' j) → TT dst val base L k d = TT dst val base L' k d
  | 0, _ => rfl
  | k + 1, h => by
    simp only [TT]
    have ih := TT_congr (k := k) (L := L) (L' := L') fun j hj => h j (by omega)
    by_cases hd : dst k = some d
    · rw [h k (by omega) hd, ih]
    · rw [if_neg (fun h => hd h.2), if_neg (fun h => hd h.2), ih]
theorem TT_top {L : Nat → Bool} {d : Nat} {i : Nat} : ∀ {k : Nat}, i ≤ k → (∀ j, i ≤ j → j < k → dst j = some d → L j = false) → TT dst val base L k d = TT dst val base L i d
  | 0, h, _ => by have : i = 0 := by omega
                  subst this; rfl
  | k + 1, h, hl => by
    by_cases e : i = k + 1
    · subst e; rfl
    · rw [TT, if_neg (fun hh => by have := hl k (by omega) (by omega) hh.2; rw [this] at hh; cases hh.1)]
      exact TT_top (by omega) fun j h1 h2 => hl j h1 (by omega)
/-- The slots that an operation looks at hold what they hold in the order in which the operations stand. -/
theorem TT_look {L : Nat → Bool} {d i n : Nat} (hi : i ≤ n) (h1 : ∀ j, j < i → dst j = some d → L j = true) (h2 : ∀ j, i ≤ j → j < n → dst j = some d → L j = false) :
    TT dst val base L n d = TT dst val base (fun _ => true) i d := by
  rw [TT_top hi h2]
  exact TT_congr fun j hj hd => h1 j hj hd
theorem TT_add {L L' : Nat → Bool} {i n : Nat} (hi : i < n) (hL : ∀ j, L' j = true ↔ (L j = true ∨ j = i)) (h : ∀ j, i < j → j < n → dst i ≠ none → dst j = dst i → L j = false) (d : Nat) :
    TT dst val base L' n d = if dst i = some d then val i else TT dst val base L n d := by
  by_cases hd : dst i = some d
  · rw [if_pos hd]
    rw [TT_top (i := i + 1) (by omega) fun j h1 h2 hdj => ?_]
    · rw [TT, if_pos ⟨(hL i).2 (.inr rfl), hd⟩]
    · have := h j (by omega) h2 (by rw [hd]; simp) (by rw [hdj, hd])
      cases hx : L' j with
      | false => rfl
      | true =>
        rcases (hL j).1 hx with h3 | h3
        · rw [this] at h3; cases h3
        · omega
  · rw [if_neg hd]
    refine TT_congr fun j hj hdj => ?_
    have hne : j ≠ i := fun e => hd (by rw [← e]; exact hdj)
    cases hx : L j with
    | true => exact (hL j).2 (.inl hx)
    | false =>
      cases hy : L' j with
      | false => rfl
      | true =>
        rcases (hL j).1 hy with h3 | h3
        · rw [hx] at h3; cases h3
        · exact (hne h3).elim
end TT

/-! ### The memories between the writes -/

def gw : List (Nat × CW) → CW → CW
  | [], W => W
  | (_, Wq) :: A, _ => gw A Wq

theorem window_spec {ops : Array Oper} {i : Nat} {an : List Nat} {ok : CW → Bool} : ∀ {A B : List (Nat × CW)} {W : CW}, window ops i an ok (A ++ B) W = true → (∀ x, x ∈ A → memN an x.1 = false) →
    (∀ j Wj B', B = (j, Wj) :: B' → anc ops j i = false) → ok (gw A W) = true
  | [], B, W, h, _, hb => by
    simp only [List.nil_append] at h
    cases B with
    | nil => exact h
    | cons x B =>
      obtain ⟨j, Wj⟩ := x
      simp only [window, Bool.and_eq_true, Bool.or_eq_true] at h
      rcases h.1 with h1 | h1
      · rw [hb j Wj B rfl] at h1; cases h1
      · exact h1
  | (q, Wq) :: A, B, W, h, ha, hb => by
    simp only [List.cons_append, window, Bool.and_eq_true] at h
    have hq := ha (q, Wq) (by simp)
    simp only at hq
    rw [hq] at h
    simp only [cond_false] at h
    exact window_spec (A := A) (B := B) (W := Wq) h.2 (fun x hx => ha x (by simp [hx])) hb

section run
variable (P : Program)

/-- What a step of the run in order is. -/
inductive StepK (R : CRec) (ops : Array Oper) (fl : List (Nat × Value × Option CObj)) (i : Nat) (o : Oper) (s s' : DSt) (v : Value) : Prop
  | float (ob : Option CObj) : (i, v, ob) ∈ fl → floatCk P o s.a v ob = true → s' = { s with a := s.a.put o.dst v } → StepK R ops fl i o s s' v
  | off : (∀ x, x ∈ fl → x.1 ≠ i) → wantedC ops o s.a = some false → v = undef → s' = { s with a := s.a.put o.dst v } → StepK R ops fl i o s s' v
  | pure (W1 : CW) : (∀ x, x ∈ fl → x.1 ≠ i) → wantedC ops o s.a = some true → pureOp P o = true → cop P o s.a.eval s.W = some [(.value v, W1)] → s' = { s with a := s.a.put o.dst v } → StepK R ops fl i o s s' v
  | read (W1 : CW) : (∀ x, x ∈ fl → x.1 ≠ i) → wantedC ops o s.a = some true → readOp P o = true → cop P o s.a.eval s.W = some [(.value v, W1)] → s' = { s with a := s.a.put o.dst v, rd := (i, o, s.a, v) :: s.rd } → StepK R ops fl i o s s' v
  | value (W1 : CW) : (∀ x, x ∈ fl → x.1 ≠ i) → wantedC ops o s.a = some true → wrOp P o = true → cop P o s.a.eval s.W = some [(.value v, W1)] → s' = { s with a := s.a.put o.dst v, W := W1, ws := (i, s.W) :: s.ws } → StepK R ops fl i o s s' v
  | skip (W1 : CW) : (∀ x, x ∈ fl → x.1 ≠ i) → wantedC ops o s.a = some true → wrOp P o = true → cop P o s.a.eval s.W = some [(.skip, W1)] → v = undef → s' = { s with a := s.a.put o.dst v, W := W1, ws := (i, s.W) :: s.ws } → StepK R ops fl i o s s' v
  | call (f : FuncId) (args : List Value) (W1 W2 : CW) (m : List (Ending × CW)) : (∀ x, x ∈ fl → x.1 ≠ i) → wantedC ops o s.a = some true → wrOp P o = true → cop P o s.a.eval s.W = some [(.enter f args, W1)] → R.call f args W1 = some m → merged (some m) = some [(.returned v, W2)] →
      s' = { s with a := s.a.put o.dst v, W := W2, ws := (i, s.W) :: s.ws } → StepK R ops fl i o s s' v
  | round (l : Nat) (args : List Value) (W1 W2 : CW) (m : List (Ending × CW)) : (∀ x, x ∈ fl → x.1 ≠ i) → wantedC ops o s.a = some true → wrOp P o = true → cop P o s.a.eval s.W = some [(.round l args, W1)] → R.round l args W1 = some m → merged (some m) = some [(.returned v, W2)] →
      s' = { s with a := s.a.put o.dst v, W := W2, ws := (i, s.W) :: s.ws } → StepK R ops fl i o s s' v

variable {P}
theorem merged_some {o : Ends} {r : List (Ending × CW)} (h : merged o = some r) : ∃ m, o = some m := by
  cases o with
  | none => cases h
  | some m => exact ⟨m, rfl⟩

theorem drawStep_spec {R : CRec} {ops : Array Oper} {fl : List (Nat × Value × Option CObj)} {i : Nat} {o : Oper} {s s' : DSt} (h : drawStep P R ops fl i o s = some s') : ∃ v, StepK P R ops fl i o s s' v := by
  unfold drawStep at h
  split at h
  · rename_i x v ob hf
    rw [cond_eq_ite] at h
    split at h
    rotate_left
    · cases h
    rename_i hck
    cases h
    have h1 := List.find?_some hf
    have h2 := List.mem_of_find?_eq_some hf
    have : x = i := Nat.eq_of_beq_eq_true h1
    subst this
    exact ⟨v, .float ob h2 hck rfl⟩
  · rename_i hf
    have hno : ∀ x, x ∈ fl → x.1 ≠ i := fun x hx he => by
      have := List.find?_eq_none.1 hf x hx
      rw [he] at this; simp at this
    split at h
    · cases h
    · rename_i hw
      cases h
      exact ⟨undef, .off hno hw rfl rfl⟩
    · rename_i hw
      rw [cond_eq_ite] at h
      split at h
      · rename_i hp
        split at h
        · rename_i v W1 hc; cases h; exact ⟨v, .pure W1 hno hw hp hc rfl⟩
        · cases h
      · rename_i hp
        rw [cond_eq_ite] at h
        split at h
        · rename_i hr
          split at h
          · rename_i v W1 hc; cases h; exact ⟨v, .read W1 hno hw hr hc rfl⟩
          · cases h
        · rename_i hr
          have hwr : wrOp P o = true := by simp [wrOp, hp, hr]
          split at h
          · rename_i v W1 hc; cases h; exact ⟨v, .value W1 hno hw hwr hc rfl⟩
          · rename_i W1 hc; cases h; exact ⟨undef, .skip W1 hno hw hwr hc rfl rfl⟩
          · rename_i f args W1 hc
            split at h
            · rename_i v W2 hm
              cases h
              obtain ⟨m, hm2⟩ := merged_some hm
              rw [hm2] at hm
              exact ⟨v, .call f args W1 W2 m hno hw hwr hc hm2 hm rfl⟩
            · cases h
          · rename_i l args W1 hc
            split at h
            · rename_i v W2 hm
              cases h
              obtain ⟨m, hm2⟩ := merged_some hm
              rw [hm2] at hm
              exact ⟨v, .round l args W1 W2 m hno hw hwr hc hm2 hm rfl⟩
            · cases h
          · cases h

/-- The run in order, up to an operation. -/
def runTo (P : Program) (R : CRec) (ops : Array Oper) (fl : List (Nat × Value × Option CObj)) (s0 : DSt) : Nat → Option DSt
  | 0 => some s0
  | k + 1 => match runTo P R ops fl s0 k, ops[k]? with
    | some s, some o => drawStep P R ops fl k o s
    | _, _ => none

theorem drawRun_runTo {R : CRec} {ops : Array Oper} {fl : List (Nat × Value × Option CObj)} {s0 sf : DSt} : ∀ (rest : List Oper) (i : Nat) (s : DSt), ops.toList.drop i = rest → runTo P R ops fl s0 i = some s →
    drawRun P R ops fl i rest s = some sf → runTo P R ops fl s0 (i + rest.length) = some sf ∧ ∀ k, i ≤ k → k ≤ i + rest.length → (runTo P R ops fl s0 k).isSome = true
  | [], i, s, _, hs, h => by
    simp only [drawRun, Option.some.injEq] at h
    subst h
    exact ⟨hs, fun k h1 h2 => by have : k = i := by simpa using Nat.le_antisymm h2 h1
                                 subst this; rw [hs]; rfl⟩
  | o :: rest, i, s, hd, hs, h => by
    have ho : ops[i]? = some o := by
      have : ops.toList[i]? = some o := by
        have := congrArg (·[0]?) hd
        simpa [List.getElem?_drop] using this
      simpa using this
    have hd' : ops.toList.drop (i + 1) = rest := by simpa using congrArg List.tail hd
    simp only [drawRun] at h
    cases hst : drawStep P R ops fl i o s with
    | none => rw [hst] at h; cases h
    | some s1 =>
      rw [hst] at h
      have hs1 : runTo P R ops fl s0 (i + 1) = some s1 := by simp only [runTo, hs, ho, hst]
      obtain ⟨h1, h2⟩ := drawRun_runTo rest (i + 1) s1 hd' hs1 h
      have e : i + (o :: rest).length = i + 1 + rest.length := by simp; omega
      refine ⟨by rw [e]; exact h1, fun k hk1 hk2 => ?_⟩
      by_cases hki : k = i
      · subst hki; rw [hs]; rfl
      · exact h2 k (by omega) (by omega)

/-- The states of the run in order, and the values that it puts. -/
theorem run_states {R : CRec} {ops : Array Oper} {fl : List (Nat × Value × Option CObj)} {s0 sf : DSt} (h : drawRun P R ops fl 0 ops.toList s0 = some sf) :
    ∃ (st : Nat → DSt) (val : Nat → Value), st 0 = s0 ∧ st ops.size = sf ∧ ∀ i o, ops[i]? = some o → StepK P R ops fl i o (st i) (st (i + 1)) (val i) := by
  obtain ⟨h1, h2⟩ := drawRun_runTo ops.toList 0 s0 rfl rfl h
  simp only [Nat.zero_add, Array.length_toList] at h1 h2
  have hstep : ∀ i o, ops[i]? = some o → ∃ v, StepK P R ops fl i o ((runTo P R ops fl s0 i).getD s0) ((runTo P R ops fl s0 (i + 1)).getD s0) v := by
    intro i o ho
    have hi : i < ops.size := (Array.getElem?_eq_some_iff.1 ho).1
    obtain ⟨s, hs⟩ := Option.isSome_iff_exists.1 (h2 i (Nat.zero_le _) (by omega))
    obtain ⟨s', hs'⟩ := Option.isSome_iff_exists.1 (h2 (i + 1) (Nat.zero_le _) (by omega))
    have hd : drawStep P R ops fl i o s = some s' := by
      have := hs'
      simp only [runTo, hs, ho] at this
      exact this
    rw [hs, hs']
    exact drawStep_spec hd
  have hval : ∀ i, ∃ v, ∀ o, ops[i]? = some o → StepK P R ops fl i o ((runTo P R ops fl s0 i).getD s0) ((runTo P R ops fl s0 (i + 1)).getD s0) v := by
    intro i
    cases ho : ops[i]? with
    | none => exact ⟨undef, fun o h => by cases h⟩
    | some o =>
      obtain ⟨v, hv⟩ := hstep i o ho
      exact ⟨v, fun o' h => by cases h; exact hv⟩
  obtain ⟨val, hval⟩ := Classical.axiomOfChoice hval
  exact ⟨fun i => (runTo P R ops fl s0 i).getD s0, val, rfl, by show (runTo P R ops fl s0 ops.size).getD s0 = sf; rw [h1]; rfl, fun i o ho => hval i o ho⟩

theorem vsame {x : Option Value} {W W' : CW} {v : CNext} (h : (match x with | some v => some [(CNext.value v, W)] | none => none) = some [(v, W')]) : W' = W := by
  obtain ⟨u, _, he⟩ := vmatch h
  simp only [List.cons.injEq, Prod.mk.injEq, and_true] at he
  exact he.2

/-- Operations that only look at memory leave it. -/
theorem cop_read {o : Oper} (hp : readOp P o = true) {e : Operand → Value} {W W1 : CW} {v : CNext} (h : cop P o e W = some [(v, W1)]) : W1 = W := by
  unfold readOp at hp
  split at hp
  case h_1 ho => simp only [cop, ho] at h; exact vsame h
  case h_2 ho => simp only [cop, ho] at h; exact vsame h
  case h_3 ho => simp only [cop, ho] at h; exact vsame h
  case h_4 ho => simp only [cop, ho] at h; exact vsame h
  case h_5 c ho =>
    split at hp
    · rename_i hc
      simp only [cop, ho, hc] at h
      split at h
      · rename_i r hr
        cases h
        unfold cbuiltin at hr
        split at hr <;> first | (cases hr; done) | skip
        all_goals first
          | (rename_i heq1 _; cases heq1; done)
          | (rename_i heq1 _ _; cases heq1; done)
          | (cases hr; rfl)
          | (rw [Option.map_eq_some_iff] at hr; obtain ⟨_, _, he⟩ := hr; cases he; rfl)
      · cases h
    · cases hp
  case h_6 s d x ho =>
    simp only [Bool.and_eq_true] at hp
    obtain ⟨h1, h2⟩ := hp
    split at h1
    · rename_i el hs
      split at h2
      · rename_i hd
        simp only [cop, ho, hs, hd] at h
        split at h
        · rename_i hh _; cases hh
        · cases h; rfl
        · rename_i hh _; cases hh
        · exact vsame h
        · cases h
      · cases h2
    · cases h1
  case h_7 => cases hp

/-- Operations that look at no memory answer alike in all memories. -/
theorem cop_pure {o : Oper} (hp : pureOp P o = true) {e : Operand → Value} {W W1 : CW} {v : Value} (h : cop P o e W = some [(.value v, W1)]) (W' : CW) : cop P o e W' = some [(.value v, W')] := by
  unfold pureOp at hp
  split at hp
  case h_17 => cases hp
  case h_1 ho => simp only [cop, ho] at h ⊢; simp_all
  case h_2 ho => simp only [cop, ho] at h ⊢; simp_all
  case h_3 ho =>
    simp only [cop, ho] at h ⊢
    split at h
    · rename_i hc; simp_all
    · cases h
  case h_9 ho => simp only [cop, ho] at h ⊢; simp_all
  case h_16 s d x ho =>
    simp only [Bool.and_eq_true] at hp
    obtain ⟨h1, h2⟩ := hp
    simp only [cop, ho] at h ⊢
    split at h
    · rename_i hs hd hx
      cases h; rfl
    · rename_i hs hd hx
      cases h; rfl
    · rename_i hs hd hx
      rw [hd] at h2; cases h2
    · rename_i hs hd _
      rw [hs] at h1; cases h1
    · cases h
  case h_7 u t x ho =>
    cases u <;> simp only [cop, ho] at h <;> first | (cases h; done) | skip
    all_goals
      obtain ⟨u, hu, he⟩ := vmatch h
      simp only [List.cons.injEq, Prod.mk.injEq, CNext.value.injEq, and_true] at he
      obtain ⟨rfl, rfl⟩ := he
      simp only [cop, ho]
      rw [hu]
  all_goals
    rename_i ho
    simp only [cop, ho] at h
    first
      | (obtain ⟨u, hu, he⟩ := vmatch h
         simp only [List.cons.injEq, Prod.mk.injEq, CNext.value.injEq, and_true] at he
         obtain ⟨rfl, rfl⟩ := he
         simp only [cop, ho]
         rw [hu])
      | skip
end run
end Go.Ce
