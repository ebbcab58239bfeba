/- Closed calls with plain arguments and a plain result. -/
import Derived.Test.YtcajkpedfkkfpaaCz
set_option linter.unusedSectionVars false
set_option linter.unusedVariables false
set_option linter.unusedSimpArgs false
namespace Go.Ce
open Go.RowKit (Below)

theorem plain_eq {ρ : Ren} : ∀ (n : Nat) (v v' : Value), plainV n v = true → VRel ρ v v' → v' = v := by
  intro n
  induction n with
  | zero => intro v v' h; simp [plainV] at h
  | succ n ih =>
    intro v v' h hv
    have arr : ∀ {x x' : Array Value}, x.toList.all (plainV n) = true → x.size = x'.size → (∀ i, i < x.size → VRel ρ (x.getD i undef) (x'.getD i undef)) → x' = x := by
      intro x x' hp hs hr
      apply Array.ext
      · exact hs.symm
      · intro i h1 h2
        have := ih (x.getD i undef) (x'.getD i undef) (by
          have := List.all_eq_true.1 hp (x[i]) (by simp)
          simpa [Array.getD_eq_getD_getElem?, h2] using this) (hr i h2)
        simpa [Array.getD_eq_getD_getElem?, h1, h2] using this
    cases hv <;> simp only [plainV] at h <;> first | rfl | (cases h; done) | skip
    case iface t v v' hv => rw [ih _ _ h hv]
    case agg x x' hs hr => rw [arr h hs hr]
    case tuple x x' hs hr => rw [arr h hs hr]

/-- **A CLOSED CALL**: plain arguments, one plain result; the arguments may hold free variables, where the run doesn't look at them. -/
theorem closed_call {P : Program} (hz : ZP P) (hmix : P.follows .mixedOrders = true) (hEN : EN P) {L : List FuncId} (hCK : CK P L) {f : FuncId} {n : Nat} {args : List Value} {v : Value} {W1 : CW} (h : (evN P L n).call f args (W0 0) = some [(.returned v, W1)])
    (ha : args.all (plainV 8) = true) (hv : plainV 8 v = true) (w : World) : Calls P f args.toArray w (fun e w' => e = .returned v ∧ Below w.heap.size w w') := by
  have hw : WRel P w (fun _ => none) (W0 0) w := ⟨(fun i x hx => by cases hx), (fun i o ho => by cases ho), (fun i o x ho => by cases ho), (fun i j o u x y ho => by cases ho), Below.refl' w⟩
  have hl : LRel (fun _ => none) args args.toArray.toList := by
    have := LRel.map (ρ := fun _ => none) args id id (fun x hx => .of_plain _ 8 x (List.all_eq_true.1 ha x hx))
    simpa using this
  obtain ⟨_, hc⟩ := (rs_all (w0 := w) hz hmix hEN hCK n).call h hl hw
  refine callsIn_wide.1 ((hc 0).mono fun e w' hE => ?_)
  obtain ⟨e0, W2, ρ2, hm, _, hN, hw2⟩ := hE
  simp only [List.mem_singleton, Prod.mk.injEq] at hm
  obtain ⟨rfl, rfl⟩ := hm
  cases hN with
  | returned hr => exact ⟨by rw [plain_eq 8 _ _ hv hr], hw2.below⟩

def retIs (v : Value) : Ends → Bool
  | some [(.returned u, _)] => veq 8 u v
  | _ => false

theorem closed_ret {P : Program} (hz : ZP P) (hmix : P.follows .mixedOrders = true) (hEN : EN P) {L : List FuncId} (hCK : CK P L) {f : FuncId} {n : Nat} {args : List Value} {v : Value} (h : retIs v ((evN P L n).call f args (W0 0)) = true)
    (ha : args.all (plainV 8) = true) (hv : plainV 8 v = true) (w : World) : Calls P f args.toArray w (fun e w' => e = .returned v ∧ Below w.heap.size w w') := by
  unfold retIs at h
  split at h
  · rename_i u W1 heq
    have := veq_sound 8 _ _ h
    subst this
    exact closed_call hz hmix hEN hCK heq ha hv w
  · cases h
end Go.Ce
