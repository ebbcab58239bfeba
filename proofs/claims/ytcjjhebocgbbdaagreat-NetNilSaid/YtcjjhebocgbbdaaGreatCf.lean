/- The canonical machine for closed runs: each operation stands to the model's. -/
import Derived.Test.YtcjjhebocgbbdaaGreatCe
set_option linter.unusedSectionVars false
set_option linter.unusedVariables false
set_option linter.unusedSimpArgs false
namespace Go.Ce
open Go.RowKit (Below)

/-- The zero values of the program hold no address. -/
def EX (P : Program) : Prop := ∀ f fn, P.funcs[f]? = some fn → fn.body.isNone = true → (fn.name == "maps.clone") = true → ∀ args w v w', (Extern.MapsClone.clone args).run P w = .ok v w' → (callFunc f args).run P w = .ok (.value v) w'
def ZP (P : Program) : Prop := (∀ t z, zer P t = some z → ∃ n, plainV n z = true) ∧ EX P
theorem ZP.rel {P : Program} (h : ZP P) {t : TypeId} {z : Value} (hz : zer P t = some z) (ρ : Ren) : VRel ρ z z := let ⟨n, hn⟩ := h.1 t z hz; .of_plain ρ n z hn

inductive DRel (ρ : Ren) : Deferred → Deferred → Prop
  | fn {f : FuncId} {cap cap' args args' : Array Value} : LRel ρ cap.toList cap'.toList → LRel ρ args.toList args'.toList → DRel ρ ⟨.fn (.func f) cap, args⟩ ⟨.fn (.func f) cap', args'⟩
  | collected {r r' : Nat} : BRel ρ r r' → DRel ρ ⟨.collected r, #[]⟩ ⟨.collected r', #[]⟩
theorem DRel.mono {ρ ρ' : Ren} {d d' : Deferred} (h : DRel ρ d d') (e : Ext ρ ρ') : DRel ρ' d d' := by
  cases h with
  | fn a b => exact .fn (a.mono e) (b.mono e)
  | collected a => exact .collected (a.mono e)

/-- What a canonical outcome of one operation says of the model's run. -/
inductive NRun (P : Program) (w0 : World) (ρ : Ren) (W : CW) (r : Result Next) : CNext → Prop
  | value {v v' : Value} {w : World} : r = .ok (.value v') w → VRel ρ v v' → WRel P w0 ρ W w → NRun P w0 ρ W r (.value v)
  | skip {w : World} : r = .ok .skip w → WRel P w0 ρ W w → NRun P w0 ρ W r .skip
  | enter {f : FuncId} {args : List Value} {args' : Array Value} {w : World} : r = (callFunc f args').run P w → LRel ρ args args'.toList → WRel P w0 ρ W w → NRun P w0 ρ W r (.enter f args)
  | round {l l' : Nat} {args : List Value} {args' : Array Value} {w : World} : r = (Instr.yield l' args').run P w → BRel ρ l l' → LRel ρ args args'.toList → WRel P w0 ρ W w → NRun P w0 ρ W r (.round l args)
  | defer {d d' : Deferred} {w : World} : r = .ok (.defer d') w → DRel ρ d d' → WRel P w0 ρ W w → NRun P w0 ρ W r (.defer d)
  | recover {w : World} : r = .ok .recover w → WRel P w0 ρ W w → NRun P w0 ρ W r .recover
  | panic {v v' : Value} {w : World} : r = .halt (.panic v') w → VRel ρ v v' → WRel P w0 ρ W w → NRun P w0 ρ W r (.panic v)

def OpSound (P : Program) (w0 : World) (ρ : Ren) (W : CW) (r : Result Next) (outs : List (CNext × CW)) : Prop :=
  ∃ n W1 ρ', (n, W1) ∈ outs ∧ Grow W ρ W1 ρ' ∧ NRun P w0 ρ' W1 r n

section
variable {P : Program} {w0 : World} {ρ : Ren} {W : CW} {w : World}

theorem OpSound.value (hw : WRel P w0 ρ W w) {r : Result Next} {v v' : Value} (hr : r = .ok (.value v') w) (hv : VRel ρ v v') : OpSound P w0 ρ W r [(.value v, W)] :=
  ⟨_, _, ρ, List.mem_singleton.2 rfl, .refl _, .value hr hv hw⟩

/-! ### Slices -/

def ORelV (ρ : Ren) : Option Value → Option Value → Prop
  | none, none => True
  | some v, some v' => VRel ρ v v'
  | _, _ => False

theorem bound_sound {x x' : Option Value} {d y y' k : Nat} (h : bound x d y = some k) (hx : ORelV ρ x x') (hy : y ≤ y') :
    (x = none ∧ x' = none ∧ k = d) ∨ (∃ v', x' = some v' ∧ k ≤ y ∧ ∀ code (w : World), (Instr.sliceBound v' y' code).run P w = .ok k w) := by
  unfold bound at h
  split at h
  · rename_i kk i
    rw [cond_eq_ite] at h
    split at h
    · rename_i hc
      simp only [Bool.and_eq_true, decide_eq_true_eq] at hc
      cases h
      cases x' with
      | none => exact hx.elim
      | some v' =>
        have hx : VRel ρ (.int kk i) v' := hx
        cases hx
        right
        refine ⟨_, rfl, by omega, fun code w => ?_⟩
        have : 0 ≤ i ∧ i ≤ (y' : Int) := ⟨hc.1, by omega⟩
        simp [Instr.sliceBound, asIntOf, this]
    · cases h
  · cases h
  · cases h
    cases x' with
    | none => exact .inl ⟨rfl, rfl, rfl⟩
    | some v' => exact hx.elim

theorem ORelV.map {f g : Operand → Value} (x : Option Operand) (h : ∀ y, x = some y → VRel ρ (f y) (g y)) : ORelV ρ (x.map f) (x.map g) := by
  cases x with
  | none => trivial
  | some y => exact h y rfl

theorem optB_some {α β : Type} {o : Option α} {f : α → Option β} {b : β} (h : optB o f = some b) : ∃ a, o = some a ∧ f a = some b := by
  cases o with
  | none => cases h
  | some a => exact ⟨a, rfl, h⟩

/-- The three bounds, as the model reckons them. -/
theorem bounds_sound (b : Bool) {lo lo' hi hi' mx mx' : Option Value} {len cap cap' m h l : Nat} (hm : bound mx cap cap = some m) (hh : bound hi len m = some h) (hl : bound lo 0 h = some l)
    (rl : ORelV ρ lo lo') (rh : ORelV ρ hi hi') (rm : ORelV ρ mx mx') (hc : cap ≤ cap') (hn : (mx.isSome && hi.isNone) = false) :
    ∃ m', (∀ w : World, (Instr.sliceBounds b len cap' lo' hi' mx').run P w = .ok (l, h, m') w) ∧ ((mx = none ∧ m' = cap' ∧ m = cap) ∨ (m' = m ∧ m ≤ cap)) ∧ l ≤ h := by
  have hlh : l ≤ h := by
    rcases bound_sound (P := P) hl rl (Nat.le_refl _) with ⟨_, _, rfl⟩ | ⟨_, _, h, _⟩
    · exact Nat.zero_le _
    · exact h
  rcases bound_sound (P := P) hm rm hc with ⟨rfl, rfl, rfl⟩ | ⟨v, rfl, hmle, hmr⟩
  · refine ⟨cap', fun w => ?_, .inl ⟨rfl, rfl, rfl⟩, hlh⟩
    rcases bound_sound (P := P) hh rh hc with ⟨rfl, rfl, rfl⟩ | ⟨v2, rfl, _, hhr⟩
    · rcases bound_sound (P := P) hl rl (Nat.le_refl _) with ⟨rfl, rfl, rfl⟩ | ⟨v3, rfl, _, hlr⟩
      · simp [Instr.sliceBounds]
      · simp [Instr.sliceBounds, hlr]
    · rcases bound_sound (P := P) hl rl (Nat.le_refl _) with ⟨rfl, rfl, rfl⟩ | ⟨v3, rfl, _, hlr⟩
      · simp [Instr.sliceBounds, hhr]
      · simp [Instr.sliceBounds, hhr, hlr]
  · have hms : mx.isSome = true := by
      cases mx with
      | none => exact rm.elim
      | some _ => rfl
    refine ⟨m, fun w => ?_, .inr ⟨rfl, hmle⟩, hlh⟩
    rcases bound_sound (P := P) hh rh (Nat.le_refl _) with ⟨rfl, rfl, rfl⟩ | ⟨v2, rfl, _, hhr⟩
    · simp [hms] at hn
    · rcases bound_sound (P := P) hl rl (Nat.le_refl _) with ⟨rfl, rfl, rfl⟩ | ⟨v3, rfl, _, hlr⟩
      · simp [Instr.sliceBounds, hmr, hhr]
      · simp [Instr.sliceBounds, hmr, hhr, hlr]
end
end Go.Ce
