/-
  No cell of these rows narrows 'for every input' (looked for: loops, veiled, ifaces, maps, wideKeys, modest, calm, conditions, laid).
  DERIVED. THE GIVEN ROWS OF THIS SEAT. 7 by the template 'for every input the law returns true; each argument reads behind the call as it read before'; 0 by the template 'total and deterministic' (their statements: YtcjjhebocgbbdaaGreatTotals.lean).
  GIVEN WITH THE SEED: the statements are not yours to turn. If you find one false, say at which input.
  Laid BY PROGRAM, IN A SANDBOX (cutbox-rows.mjs): the forced cells as the released guide's own fill.sh prints them over the translation d8b3871f7bc0df68… (all of the seat's roots in one cut). By AI agents, Wed Nov 11 2026. No macro, syntax, notation, axiom, sorry.
-/
import Derived.Test.YtcjjhebocgbbdaaGreatChecked
import GoSem.Claim
import GoSem.ClaimJoined
import GoSem.ClaimMapViews
import Derived.JoinedTies
import Derived.KernelRfl
namespace Go.Proofs.YtcjjhebocgbbdaaGreat
/- THE CELL 'sum', in the pinned program and in every row, IS THE sha256 OF THE DUMP (.gsa) THAT YtcjjhebocgbbdaaGreatProg.lean LOADS. Nothing in Lean hashes anything: it is a label: what it is worth is what the hold of that sum in a sandbox is worth. -/
noncomputable def Tryz.pinned : Pinned := { name := "ytcjjhebocgbbdaagreat", sum := "d8b3871f7bc0df68aa0b1f35801ea993be1fe23eb23bfa702a06a88b418fb199", checked := Tryz.checked }
namespace Rows
def none {H : Type} : Left H := { results := [], args := [] }

/-- 'trestlelaw22.NetCrash': WHATEVER THE INPUT: true; the input reads as it did. -/
def netCrashSpec : ChangeSpec := { name := "netCrash", fn := fun _ => fun
  | [d1, d2] => { results := [.lit (.bool true)], args := [d1, d2] }
  | _ => none }
def netCrashRow : OpenClaim := { program := "ytcjjhebocgbbdaagreat", sum := "d8b3871f7bc0df68aa0b1f35801ea993be1fe23eb23bfa702a06a88b418fb199", func := "trestle/trestlelaw22.NetCrash", spec := "netCrash", unfollowed := true, recurses := true, plainKeys := false, apart := false }
def NetCrashSaid : Prop := netCrashRow.holds Tryz.pinned (OpenSpec.ofChange netCrashSpec)

/-- ITS FALSE NEIGHBOUR: 'it returns false'. Refute it at one input. -/
def netCrashWrong : ChangeSpec := { name := "netCrash", fn := fun _ => fun
  | [d1, d2] => { results := [.lit (.bool false)], args := [d1, d2] }
  | _ => none }
def NetCrashWrongFalsely : Prop := netCrashRow.holds Tryz.pinned (OpenSpec.ofChange netCrashWrong)

/-- 'trestlelaw22.NetIdentity': WHATEVER THE INPUT: true; the input reads as it did. -/
def netIdentitySpec : ChangeSpec := { name := "netIdentity", fn := fun _ => fun
  | [d1, d2, d3] => { results := [.lit (.bool true)], args := [d1, d2, d3] }
  | _ => none }
def netIdentityRow : OpenClaim := { program := "ytcjjhebocgbbdaagreat", sum := "d8b3871f7bc0df68aa0b1f35801ea993be1fe23eb23bfa702a06a88b418fb199", func := "trestle/trestlelaw22.NetIdentity", spec := "netIdentity", unfollowed := true, recurses := true, plainKeys := false, apart := false }
def NetIdentitySaid : Prop := netIdentityRow.holds Tryz.pinned (OpenSpec.ofChange netIdentitySpec)

/-- ITS FALSE NEIGHBOUR: 'it returns false'. Refute it at one input. -/
def netIdentityWrong : ChangeSpec := { name := "netIdentity", fn := fun _ => fun
  | [d1, d2, d3] => { results := [.lit (.bool false)], args := [d1, d2, d3] }
  | _ => none }
def NetIdentityWrongFalsely : Prop := netIdentityRow.holds Tryz.pinned (OpenSpec.ofChange netIdentityWrong)

/-- 'trestlelaw22.NetOnce': WHATEVER THE INPUT: true; the input reads as it did. -/
def netOnceSpec : ChangeSpec := { name := "netOnce", fn := fun _ => fun
  | [d1, d2] => { results := [.lit (.bool true)], args := [d1, d2] }
  | _ => none }
def netOnceRow : OpenClaim := { program := "ytcjjhebocgbbdaagreat", sum := "d8b3871f7bc0df68aa0b1f35801ea993be1fe23eb23bfa702a06a88b418fb199", func := "trestle/trestlelaw22.NetOnce", spec := "netOnce", unfollowed := true, recurses := true, plainKeys := false, apart := false }
def NetOnceSaid : Prop := netOnceRow.holds Tryz.pinned (OpenSpec.ofChange netOnceSpec)

/-- ITS FALSE NEIGHBOUR: 'it returns false'. Refute it at one input. -/
def netOnceWrong : ChangeSpec := { name := "netOnce", fn := fun _ => fun
  | [d1, d2] => { results := [.lit (.bool false)], args := [d1, d2] }
  | _ => none }
def NetOnceWrongFalsely : Prop := netOnceRow.holds Tryz.pinned (OpenSpec.ofChange netOnceWrong)

/-- 'trestlelaw22.NetSafe': WHATEVER THE INPUT: true; the input reads as it did. -/
def netSafeSpec : ChangeSpec := { name := "netSafe", fn := fun _ => fun
  | [d1, d2] => { results := [.lit (.bool true)], args := [d1, d2] }
  | _ => none }
def netSafeRow : OpenClaim := { program := "ytcjjhebocgbbdaagreat", sum := "d8b3871f7bc0df68aa0b1f35801ea993be1fe23eb23bfa702a06a88b418fb199", func := "trestle/trestlelaw22.NetSafe", spec := "netSafe", unfollowed := true, recurses := true, plainKeys := false, apart := false }
def NetSafeSaid : Prop := netSafeRow.holds Tryz.pinned (OpenSpec.ofChange netSafeSpec)

/-- ITS FALSE NEIGHBOUR: 'it returns false'. Refute it at one input. -/
def netSafeWrong : ChangeSpec := { name := "netSafe", fn := fun _ => fun
  | [d1, d2] => { results := [.lit (.bool false)], args := [d1, d2] }
  | _ => none }
def NetSafeWrongFalsely : Prop := netSafeRow.holds Tryz.pinned (OpenSpec.ofChange netSafeWrong)

/-- 'trestlelaw22.NetAgain': WHATEVER THE INPUT: true; the input reads as it did. -/
def netAgainSpec : ChangeSpec := { name := "netAgain", fn := fun _ => fun
  | [d1, d2] => { results := [.lit (.bool true)], args := [d1, d2] }
  | _ => none }
def netAgainRow : OpenClaim := { program := "ytcjjhebocgbbdaagreat", sum := "d8b3871f7bc0df68aa0b1f35801ea993be1fe23eb23bfa702a06a88b418fb199", func := "trestle/trestlelaw22.NetAgain", spec := "netAgain", unfollowed := true, recurses := true, plainKeys := false, apart := false }
def NetAgainSaid : Prop := netAgainRow.holds Tryz.pinned (OpenSpec.ofChange netAgainSpec)

/-- ITS FALSE NEIGHBOUR: 'it returns false'. Refute it at one input. -/
def netAgainWrong : ChangeSpec := { name := "netAgain", fn := fun _ => fun
  | [d1, d2] => { results := [.lit (.bool false)], args := [d1, d2] }
  | _ => none }
def NetAgainWrongFalsely : Prop := netAgainRow.holds Tryz.pinned (OpenSpec.ofChange netAgainWrong)

/-- 'trestlelaw22.NetFreed': WHATEVER THE INPUT: true; the input reads as it did. -/
def netFreedSpec : ChangeSpec := { name := "netFreed", fn := fun _ => fun
  | [d1, d2] => { results := [.lit (.bool true)], args := [d1, d2] }
  | _ => none }
def netFreedRow : OpenClaim := { program := "ytcjjhebocgbbdaagreat", sum := "d8b3871f7bc0df68aa0b1f35801ea993be1fe23eb23bfa702a06a88b418fb199", func := "trestle/trestlelaw22.NetFreed", spec := "netFreed", unfollowed := true, recurses := true, plainKeys := false, apart := false }
def NetFreedSaid : Prop := netFreedRow.holds Tryz.pinned (OpenSpec.ofChange netFreedSpec)

/-- ITS FALSE NEIGHBOUR: 'it returns false'. Refute it at one input. -/
def netFreedWrong : ChangeSpec := { name := "netFreed", fn := fun _ => fun
  | [d1, d2] => { results := [.lit (.bool false)], args := [d1, d2] }
  | _ => none }
def NetFreedWrongFalsely : Prop := netFreedRow.holds Tryz.pinned (OpenSpec.ofChange netFreedWrong)

/-- 'trestlelaw22.NetNil': WHATEVER THE INPUT: true; the input reads as it did. -/
def netNilSpec : ChangeSpec := { name := "netNil", fn := fun _ => fun
  | [d1, d2, d3] => { results := [.lit (.bool true)], args := [d1, d2, d3] }
  | _ => none }
def netNilRow : OpenClaim := { program := "ytcjjhebocgbbdaagreat", sum := "d8b3871f7bc0df68aa0b1f35801ea993be1fe23eb23bfa702a06a88b418fb199", func := "trestle/trestlelaw22.NetNil", spec := "netNil", unfollowed := true, recurses := true, plainKeys := false, apart := false }
def NetNilSaid : Prop := netNilRow.holds Tryz.pinned (OpenSpec.ofChange netNilSpec)

/-- ITS FALSE NEIGHBOUR: 'it returns false'. Refute it at one input. -/
def netNilWrong : ChangeSpec := { name := "netNil", fn := fun _ => fun
  | [d1, d2, d3] => { results := [.lit (.bool false)], args := [d1, d2, d3] }
  | _ => none }
def NetNilWrongFalsely : Prop := netNilRow.holds Tryz.pinned (OpenSpec.ofChange netNilWrong)

/- THE SECOND FORM. 'bulk': how many values and letters a reading holds, each counted each time it is reached (what is shared counts as often as it is met; a slice's spare places count too). A statement '..UptoSaid' is the law's where the arguments, and the package variables that the reading takes, are together of bulk at most 1048576: NARROWER than '..Said'. Prove '..Said' where nothing that the law and all that it calls make is longer than what came in: it says more and counts as full. Else prove '..UptoSaid'. A law counts once. -/
mutual
def uptoBulk {H : Type} : DataW H → Nat
  | .lit (.string bytes) => bytes.length + 1
  | .lit _ => 1
  | .nil => 1
  | .ptr d => uptoBulk d + 1
  | .slice elems spare => uptoBulkAll elems + uptoBulkAll spare + 1
  | .agg parts => uptoBulkAll parts + 1
  | .iface _ d => uptoBulk d + 1
  | .map entries => uptoBulkEntries entries + 1
  | .held _ => 1
def uptoBulkAll {H : Type} : List (DataW H) → Nat
  | [] => 0
  | d :: r => uptoBulk d + uptoBulkAll r
def uptoBulkEntries {H : Type} : List (Lit × DataW H) → Nat
  | [] => 0
  | x :: r => uptoBulkEntry x + uptoBulkEntries r
def uptoBulkEntry {H : Type} : Lit × DataW H → Nat
  | (.string bytes, d) => bytes.length + uptoBulk d + 1
  | (_, d) => uptoBulk d + 1
 end
def uptoSmall : (H : Type) → List (DataW H) → Bool := fun _ ds => decide (uptoBulkAll ds ≤ 1048576)
def OpenSpec.upto (s : _root_.Go.ChangeSpec) : _root_.Go.OpenSpec := { _root_.Go.OpenSpec.ofChange s with cond := some uptoSmall }

/-- 'trestlelaw22.NetCrash', WHERE WHAT IT READS IS OF BULK AT MOST 1048576: true; the input reads as it did. -/
def netCrashUptoRow : OpenClaim := { program := "ytcjjhebocgbbdaagreat", sum := "d8b3871f7bc0df68aa0b1f35801ea993be1fe23eb23bfa702a06a88b418fb199", func := "trestle/trestlelaw22.NetCrash", spec := "netCrash", unfollowed := true, recurses := true, plainKeys := false, apart := false, narrowed := true }
def NetCrashUptoSaid : Prop := netCrashUptoRow.holds Tryz.pinned (OpenSpec.upto netCrashSpec)

/-- 'trestlelaw22.NetIdentity', WHERE WHAT IT READS IS OF BULK AT MOST 1048576: true; the input reads as it did. -/
def netIdentityUptoRow : OpenClaim := { program := "ytcjjhebocgbbdaagreat", sum := "d8b3871f7bc0df68aa0b1f35801ea993be1fe23eb23bfa702a06a88b418fb199", func := "trestle/trestlelaw22.NetIdentity", spec := "netIdentity", unfollowed := true, recurses := true, plainKeys := false, apart := false, narrowed := true }
def NetIdentityUptoSaid : Prop := netIdentityUptoRow.holds Tryz.pinned (OpenSpec.upto netIdentitySpec)

/-- 'trestlelaw22.NetOnce', WHERE WHAT IT READS IS OF BULK AT MOST 1048576: true; the input reads as it did. -/
def netOnceUptoRow : OpenClaim := { program := "ytcjjhebocgbbdaagreat", sum := "d8b3871f7bc0df68aa0b1f35801ea993be1fe23eb23bfa702a06a88b418fb199", func := "trestle/trestlelaw22.NetOnce", spec := "netOnce", unfollowed := true, recurses := true, plainKeys := false, apart := false, narrowed := true }
def NetOnceUptoSaid : Prop := netOnceUptoRow.holds Tryz.pinned (OpenSpec.upto netOnceSpec)

/-- 'trestlelaw22.NetSafe', WHERE WHAT IT READS IS OF BULK AT MOST 1048576: true; the input reads as it did. -/
def netSafeUptoRow : OpenClaim := { program := "ytcjjhebocgbbdaagreat", sum := "d8b3871f7bc0df68aa0b1f35801ea993be1fe23eb23bfa702a06a88b418fb199", func := "trestle/trestlelaw22.NetSafe", spec := "netSafe", unfollowed := true, recurses := true, plainKeys := false, apart := false, narrowed := true }
def NetSafeUptoSaid : Prop := netSafeUptoRow.holds Tryz.pinned (OpenSpec.upto netSafeSpec)

/-- 'trestlelaw22.NetAgain', WHERE WHAT IT READS IS OF BULK AT MOST 1048576: true; the input reads as it did. -/
def netAgainUptoRow : OpenClaim := { program := "ytcjjhebocgbbdaagreat", sum := "d8b3871f7bc0df68aa0b1f35801ea993be1fe23eb23bfa702a06a88b418fb199", func := "trestle/trestlelaw22.NetAgain", spec := "netAgain", unfollowed := true, recurses := true, plainKeys := false, apart := false, narrowed := true }
def NetAgainUptoSaid : Prop := netAgainUptoRow.holds Tryz.pinned (OpenSpec.upto netAgainSpec)

/-- 'trestlelaw22.NetFreed', WHERE WHAT IT READS IS OF BULK AT MOST 1048576: true; the input reads as it did. -/
def netFreedUptoRow : OpenClaim := { program := "ytcjjhebocgbbdaagreat", sum := "d8b3871f7bc0df68aa0b1f35801ea993be1fe23eb23bfa702a06a88b418fb199", func := "trestle/trestlelaw22.NetFreed", spec := "netFreed", unfollowed := true, recurses := true, plainKeys := false, apart := false, narrowed := true }
def NetFreedUptoSaid : Prop := netFreedUptoRow.holds Tryz.pinned (OpenSpec.upto netFreedSpec)

/-- 'trestlelaw22.NetNil', WHERE WHAT IT READS IS OF BULK AT MOST 1048576: true; the input reads as it did. -/
def netNilUptoRow : OpenClaim := { program := "ytcjjhebocgbbdaagreat", sum := "d8b3871f7bc0df68aa0b1f35801ea993be1fe23eb23bfa702a06a88b418fb199", func := "trestle/trestlelaw22.NetNil", spec := "netNil", unfollowed := true, recurses := true, plainKeys := false, apart := false, narrowed := true }
def NetNilUptoSaid : Prop := netNilUptoRow.holds Tryz.pinned (OpenSpec.upto netNilSpec)

end Rows
end Go.Proofs.YtcjjhebocgbbdaaGreat
