/- What a closed run asks of the program; closed calls whose arguments hold no address. -/
import Derived.Test.YtcjjhebocgbbdaaGreatCz
import Derived.Laws.Externs
set_option linter.unusedSectionVars false
set_option linter.unusedVariables false
set_option linter.unusedSimpArgs false
namespace Go.Ce
open Go.RowKit (Below)

def zpOk (P : Program) : Bool := (List.range P.types.size).all fun t => match zer P t with | some z => plainV 8 z | none => true
def exOk (P : Program) : Bool := P.funcs.toList.all fun fn => !(fn.body.isNone && fn.name == "maps.clone")
theorem EX.of {P : Program} (h : exOk P = true) : EX P := by
  intro f fn hf hb hn
  have hm : fn ∈ P.funcs.toList := by simpa using Array.mem_of_getElem? hf
  have := List.all_eq_true.1 h fn hm
  simp [hb, hn] at this
/-- Where 'maps.clone' is one function of the program. -/
theorem EX.at {P : Program} {k : FuncId} {fk : Func} (hk : P.funcs[k]? = some fk) (h : ((List.range P.funcs.size).all fun i => Nat.beq i k || match P.funcs[i]? with | some fn => !(fn.body.isNone && fn.name == "maps.clone") | none => true) = true)
    (h1 : (fk.name == "runtime.NumGoroutine") = false) (h2 : Extern.findNext fk = none) (h3 : Extern.find fk = some Extern.MapsClone.clone) : EX P := by
  intro f fn hf hb hn args w v w' hr
  have hlt : f < P.funcs.size := (Array.getElem?_eq_some_iff.1 hf).1
  have := List.all_eq_true.1 h f (List.mem_range.2 hlt)
  rw [hf] at this
  simp only [hb, hn, Bool.and_self, Bool.not_true, Bool.or_false, Nat.beq_eq] at this
  subst this
  rw [hk] at hf
  cases hf
  rw [run_callFunc_extern hk h1 hb h2 h3, hr]
  rfl
theorem ZP.of {P : Program} (h : zpOk P = true) (hx : EX P) : ZP P := by
  refine ⟨?_, hx⟩
  intro t z hz
  have hlt : t < P.types.size := by
    unfold zer at hz
    rw [cond_eq_ite] at hz
    split at hz
    · rename_i h1; exact Nat.le_of_ble_eq_true h1
    · cases hz
  have := List.all_eq_true.1 h t (List.mem_range.2 hlt)
  rw [hz] at this
  exact ⟨8, this⟩

def enOk (P : Program) : Bool := P.funcs.toList.all fun fn => !(fn.name == "runtime.NumGoroutine")
theorem EN.of {P : Program} (h : enOk P = true) : EN P := by
  intro f fn hf hb args w
  have hm : fn ∈ P.funcs.toList := by simpa using Array.mem_of_getElem? hf
  have hn := List.all_eq_true.1 h fn hm
  have hn : (fn.name == "runtime.NumGoroutine") = false := by simpa using hn
  have hb : fn.body.isNone = false := by cases hx : fn.body <;> simp_all
  simp only [callFunc, Sem.run_bind, run_program, Result.andThen_ok, hf, hn, hb, Bool.false_eq_true, if_false, Sem.run_pure]

/-- **A CLOSED CALL**: arguments without addresses (they may hold free variables, where the run doesn't look at them); it hands back true. -/
theorem closed_true {P : Program} (hz : ZP P) (hmix : P.follows .mixedOrders = true) (hEN : EN P) {L : List FuncId} (hCK : CK P L) {f : FuncId} {n : Nat} {args : List Value} (h : allTrue ((evN P L n).call f args (W0 0)) = true)
    (ha : args.all (plainV 8) = true) (w : World) : Calls P f args.toArray w (fun e w' => e = .returned (.bool true) ∧ Below w.heap.size w w') := by
  have hw : WRel P w (fun _ => none) (W0 0) w := ⟨(fun i x hx => by cases hx), (fun i o ho => by cases ho), (fun i o x ho => by cases ho), (fun i j o u x y ho => by cases ho), Below.refl' w⟩
  have hl : LRel (fun _ => none) args args.toArray.toList := by
    have := LRel.map (ρ := fun _ => none) args id id (fun x hx => .of_plain _ 8 x (List.all_eq_true.1 ha x hx))
    simpa using this
  cases ho : (evN P L n).call f args (W0 0) with
  | none => rw [ho] at h; cases h
  | some outs =>
    rw [ho] at h
    obtain ⟨_, hc⟩ := (rs_all (w0 := w) hz hmix hEN hCK n).call ho hl hw
    refine callsIn_wide.1 ((hc 0).mono fun e w' hE => ?_)
    obtain ⟨e0, W2, ρ2, hm, _, hN, hw2⟩ := hE
    have := List.all_eq_true.1 h _ hm
    simp only at this
    cases hN with
    | returned hv =>
      split at this
      · rename_i heq
        cases heq
        cases hv
        exact ⟨rfl, hw2.below⟩
      · cases this
    | panicked _ => cases this
end Go.Ce
