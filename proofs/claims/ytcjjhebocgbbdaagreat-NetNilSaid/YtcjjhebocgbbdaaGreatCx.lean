/- The canonical machine for closed runs: how a function leaves; calls. -/
import Derived.Test.YtcjjhebocgbbdaaGreatCw
set_option linter.unusedSectionVars false
set_option linter.unusedVariables false
set_option linter.unusedSimpArgs false
namespace Go.Ce
open Go.RowKit (Below)

section
variable {P : Program} {w0 : World} {k : Nat} {R : CRec}

/-- One result of a function. -/
def resOne (tmps : Array Value) (r : ResultVar) : Sem Value :=
  match r with
  | .tmp t => pure (tmps.getD t undef)
  | .cell s t => do loadVar t (← asAddr (tmps.getD s undef))

theorem results_eq (fn : Func) (tmps : Array Value) : results fn tmps = (do let vs ← fn.results.mapM (resOne tmps); pure (if h : vs.size = 1 then vs[0] else .tuple vs)) := by
  have : (fun r : ResultVar => match r with | .tmp t => (pure (tmps.getD t undef) : Sem Value) | .cell a t => do loadVar t (← asAddr (tmps.getD a undef))) = resOne tmps := by
    funext r; cases r <;> rfl
  unfold results
  rw [← this]
  rfl

theorem cresults_run {ρ : Ren} {a : CAct} {a' : Act} {W : CW} {w : World} (ha : ∀ i, VRel ρ (a.at i) (a'.tmps.getD i undef)) (hw : WRel P w0 ρ W w) : ∀ {rs : List ResultVar} {vs : List Value}, rs.mapM (cresult P a W) = some vs →
    ∃ vs', (rs.mapM (resOne a'.tmps)).run P w = .ok vs' w ∧ LRel ρ vs vs'
  | [], vs, h => by simp at h; subst h; exact ⟨[], by simp, .nil _⟩
  | r :: rs, vs, h => by
    rw [List.mapM_cons] at h
    cases hr : cresult P a W r with
    | none => simp [hr] at h
    | some v =>
      simp only [hr, Option.bind_eq_bind, Option.bind_some] at h
      cases hrs : rs.mapM (cresult P a W) with
      | none => simp [hrs] at h
      | some vs2 =>
        simp only [hrs, Option.bind_some, Option.pure_def, Option.some.injEq] at h
        subst h
        obtain ⟨vs', hv', hl⟩ := cresults_run ha hw hrs
        have hone : ∃ v', (resOne a'.tmps r).run P w = .ok v' w ∧ VRel ρ v v' := by
          cases r with
          | tmp t =>
            refine ⟨_, rfl, ?_⟩
            have := ha t
            simp only [cresult, Option.some.injEq] at hr
            rw [← hr]
            simp only [CAct.at] at this
            cases hq : a.t.get t <;> (rw [hq] at this; exact this)
          | cell s t =>
            have := ha s
            simp only [cresult] at hr
            split at hr
            · rename_i p hp
              simp only [CAct.at, hp, Option.getD_some] at this
              generalize hcc : a'.tmps.getD s undef = q at this
              cases this with
              | ptr hpp =>
                obtain ⟨v', hr', hv'⟩ := cload_sound hw hpp hr
                exact ⟨v', by simp only [resOne, hcc, asAddr, Sem.run_bind, Sem.run_pure, Result.andThen_ok]; exact hr', hv'⟩
            · cases hr
        obtain ⟨v', hv1, hv2⟩ := hone
        refine ⟨v' :: vs', ?_, .cons hv2 hl⟩
        rw [List.mapM_cons]
        simp only [Sem.run_bind, hv1, Result.andThen_ok, hv', Sem.run_pure]

theorem results_sound {fn : Func} {ρ : Ren} {a : CAct} {a' : Act} {W : CW} {w : World} {v : Value} (ha : ∀ i, VRel ρ (a.at i) (a'.tmps.getD i undef)) (hw : WRel P w0 ρ W w) (h : cresults P fn a W = some v) :
    ∃ v', (results fn a'.tmps).run P w = .ok v' w ∧ VRel ρ v v' := by
  unfold cresults at h
  have run : ∀ {vs'}, (fn.results.toList.mapM (resOne a'.tmps)).run P w = .ok vs' w → (results fn a'.tmps).run P w = .ok (if h : vs'.toArray.size = 1 then vs'.toArray[0] else .tuple vs'.toArray) w := by
    intro vs' hv
    rw [results_eq]
    rw [← Array.toArray_toList (xs := fn.results), List.mapM_toArray]
    simp only [Sem.run_bind, Sem.run_map]
    rw [hv]
    rfl
  split at h
  · rename_i v0 hm
    cases h
    obtain ⟨vs', hv, hl⟩ := cresults_run ha hw hm
    have : ∃ y, vs' = [y] := by
      have := hl.1
      cases vs' with
      | nil => simp at this
      | cons y ys => exact ⟨y, by have : ys = [] := by simpa using this
                                  rw [this]⟩
    obtain ⟨y, rfl⟩ := this
    exact ⟨y, by rw [run hv]; rfl, hl.head⟩
  · rename_i vs q1 q2
    have hm : fn.results.toList.mapM (cresult P a W) = some vs := by first | exact q1 | exact q2
    have hne : ∀ v, vs = [v] → False := by first | exact q1 | exact q2
    cases h
    obtain ⟨vs', hv, hl⟩ := cresults_run ha hw hm
    refine ⟨.tuple vs'.toArray, ?_, .tuple' (by simpa using hl)⟩
    rw [run hv, dif_neg]
    intro h1
    have hl1 : vs.length = 1 := by rw [hl.1]; simpa using h1
    obtain ⟨x, hx⟩ := List.length_eq_one_iff.1 hl1
    exact hne x hx
  · cases h
end
end Go.Ce
