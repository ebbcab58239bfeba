/- The law NetNil of the package trestlelaw22 hands back true for every two ints and every letter, and what it was given reads behind the call as before.
   Conditions: none. (The row's step began as the seat's proof skeleton.) -/
import Derived.Test.YtcjjhebocgbbdaaGreatRows
import Derived.Test.YtcjjhebocgbbdaaGreatNa
import Derived.Test.YtcjjhebocgbbdaaGreatEd
import Derived.WalkKit
import Derived.ProofKit
set_option linter.unusedSectionVars false
set_option linter.unusedVariables false
set_option linter.unusedSimpArgs false
namespace Go.Proofs.YtcjjhebocgbbdaaGreat.netNil
open Go.Ce Go.ChangeShapes Go.WideShapes Go.ChangeAt Go.RowKit

theorem own : ownKnob Tryz.prog.godebug = none := by kernel_rfl
theorem zp : ZP Tryz.prog := ZP.of (by kernel_rfl) (EX.of (by kernel_rfl))
theorem en : EN Tryz.prog := EN.of (by kernel_rfl)
theorem mix : Tryz.prog.follows .mixedOrders = true := by kernel_rfl
theorem laid : laidOutB Tryz.prog = true := by kernel_rfl
theorem u3 : Tryz.prog.underlying 3 = some (.int .i64) := by kernel_rfl
theorem u5 : Tryz.prog.underlying 5 = some (.int .u8) := by kernel_rfl
theorem u4 : Tryz.prog.underlying 4 = some .bool := by kernel_rfl
theorem ok3 : okT Tryz.prog 20 3 = true := by kernel_rfl
theorem ok31 : okT Tryz.prog 20 31 = true := by kernel_rfl
theorem leaf3 : leafTs Tryz.prog 20 3 = [3] := by kernel_rfl
theorem leaf31 : leafTs Tryz.prog 20 31 = [5, 3, 3, 3, 3, 3, 3, 3, 4, 3, 3, 3, 3, 3, 3, 3, 4] := by kernel_rfl
theorem arg3 (v : Value) : argV Tryz.prog 3 [v] = v := by unfold argV; rw [u3]; rfl
theorem arg31 (vs : List Value) : argV Tryz.prog 31 vs = .agg vs.toArray := by kernel_rfl

set_option maxRecDepth 100000 in
/-- The canonical machine's run, at whatever words. -/
theorem run (vs : List Value) (h : CTs Tryz.prog [3, 3, 31] (W0 0) vs) : ∃ n, allTrue ((evN Tryz.prog netL n).call 9 vs (W0 0)) = true := by
  obtain ⟨c0, vs, rfl, h0, h⟩ := h.cons
  obtain ⟨c1, vs, rfl, h1, h⟩ := h.cons
  obtain ⟨c2, vs, rfl, h2, h⟩ := h.cons
  obtain rfl := h.nil
  have l0 := leavesOf ok3 h0
  have l1 := leavesOf ok3 h1
  have l2 := leavesOf ok31 h2
  clear h0 h1 h2 h
  rw [leaf3] at l0 l1
  rw [leaf31] at l2
  obtain ⟨_, _, rfl, hv, k0⟩ := l0.cons
  obtain rfl := k0.nil
  obtain ⟨v, rfl, _⟩ := hv.int u3
  obtain ⟨_, _, rfl, hw, k1⟩ := l1.cons
  obtain rfl := k1.nil
  obtain ⟨w, rfl, _⟩ := hw.int u3
  obtain ⟨_, _, rfl, hx1, m1⟩ := l2.cons; obtain ⟨k, rfl, _⟩ := hx1.int u5
  obtain ⟨_, _, rfl, hx2, m2⟩ := m1.cons; obtain ⟨a1, rfl, _⟩ := hx2.int u3
  obtain ⟨_, _, rfl, hx3, m3⟩ := m2.cons; obtain ⟨a2, rfl, _⟩ := hx3.int u3
  obtain ⟨_, _, rfl, hx4, m4⟩ := m3.cons; obtain ⟨a3, rfl, _⟩ := hx4.int u3
  obtain ⟨_, _, rfl, hx5, m5⟩ := m4.cons; obtain ⟨a4, rfl, _⟩ := hx5.int u3
  obtain ⟨_, _, rfl, hx6, m6⟩ := m5.cons; obtain ⟨a5, rfl, _⟩ := hx6.int u3
  obtain ⟨_, _, rfl, hx7, m7⟩ := m6.cons; obtain ⟨a6, rfl, _⟩ := hx7.int u3
  obtain ⟨_, _, rfl, hx8, m8⟩ := m7.cons; obtain ⟨a7, rfl, _⟩ := hx8.int u3
  obtain ⟨_, _, rfl, hx9, m9⟩ := m8.cons; obtain ⟨b8, rfl⟩ := hx9.bool u4
  obtain ⟨_, _, rfl, hx10, m10⟩ := m9.cons; obtain ⟨a9, rfl, _⟩ := hx10.int u3
  obtain ⟨_, _, rfl, hx11, m11⟩ := m10.cons; obtain ⟨a10, rfl, _⟩ := hx11.int u3
  obtain ⟨_, _, rfl, hx12, m12⟩ := m11.cons; obtain ⟨a11, rfl, _⟩ := hx12.int u3
  obtain ⟨_, _, rfl, hx13, m13⟩ := m12.cons; obtain ⟨a12, rfl, _⟩ := hx13.int u3
  obtain ⟨_, _, rfl, hx14, m14⟩ := m13.cons; obtain ⟨a13, rfl, _⟩ := hx14.int u3
  obtain ⟨_, _, rfl, hx15, m15⟩ := m14.cons; obtain ⟨a14, rfl, _⟩ := hx15.int u3
  obtain ⟨_, _, rfl, hx16, m16⟩ := m15.cons; obtain ⟨a15, rfl, _⟩ := hx16.int u3
  obtain ⟨_, _, rfl, hx17, m17⟩ := m16.cons; obtain ⟨b16, rfl⟩ := hx17.bool u4
  obtain rfl := m17.nil
  rw [arg3, arg3, arg31]
  exact ⟨400, net_nil_run v w k a1 a2 a3 a4 a5 a6 a7 a9 a10 a11 a12 a13 a14 a15 b8 b16⟩

/-! ### The row's step -/
set_option maxRecDepth 100000 in
theorem lifted (os : Os) (started : os.Started) (H : Type) (enc : TypeId × Value → H) :
    ReturnsInHanded {} Tryz.checked os 9 .any (Rows.netNilSpec.pre6 enc Tryz.prog Tryz.f9 Rows.netNilRow.domain false) (Rows.netNilSpec.post enc Tryz.prog Tryz.f9 false true false false) := by
  refine returnsInHanded_of_change (C := Tryz.checked) own started (by kernel_rfl) Tryz.func9
    (ChangeSpec.witness6 (enc := enc) (C := Tryz.checked) false ⟨#[], #[.int .i64 0, .int .i64 0, .agg #[.int .u8 0, .int .i64 0, .int .i64 0, .int .i64 0, .int .i64 0, .int .i64 0, .int .i64 0, .int .i64 0, .bool false, .int .i64 0, .int .i64 0, .int .i64 0, .int .i64 0, .int .i64 0, .int .i64 0, .int .i64 0, .bool false]], []⟩ 8 (by kernel_rfl) (by kernel_rfl) (by kernel_rfl) (by kernel_rfl)) ?_
  intro W base args ds gs before hval hW _ _
  refine law_plain (fn := Tryz.f9) (L := netL) (tb := 4) zp mix en (CK.of net_code (by kernel_rfl)) laid rfl (fun H ds h => ?_) (by kernel_rfl) (by kernel_rfl) u4 (fun vs h => run vs h) W base args ds gs before hval hW
  have h : ds.length = 3 := h
  match ds, h with
  | [d1, d2, d3], _ => rfl

theorem over : Rows.netNilRow.holds Tryz.pinned (OpenSpec.ofChange Rows.netNilSpec) :=
  OpenClaim.holds_of_wide 9 Tryz.f9 rfl rfl rfl rfl rfl rfl rfl ⟨rfl, rfl, rfl, rfl, rfl⟩ rfl rfl rfl rfl rfl (by kernel_rfl) Tryz.func9 (by kernel_rfl)
    (of_decide_eq_true (by kernel_rfl)) (by unfold Func.isWrapper; first | (rw [if_pos (by decide +kernel)]; kernel_rfl) | (rw [if_neg (by decide +kernel)]; exact ⟨rfl, rfl⟩))
    (fun os started H enc _ => lifted os started H enc)

/-- ████ THE STATEMENT ████ -/
theorem proved : Rows.NetNilSaid :=
  over
#print axioms proved
end Go.Proofs.YtcjjhebocgbbdaaGreat.netNil
