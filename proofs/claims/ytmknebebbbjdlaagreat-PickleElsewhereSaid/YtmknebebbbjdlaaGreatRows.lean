/-
  No cell of these rows narrows 'for every input' (looked for: loops, veiled, ifaces, maps, wideKeys, modest, calm, conditions, laid).
  DERIVED. THE GIVEN ROWS OF THIS SEAT. 10 by the template 'for every input the law returns true; each argument reads behind the call as it read before'; 0 by the template 'total and deterministic' (their statements: YtmknebebbbjdlaaGreatTotals.lean).
  GIVEN WITH THE SEED: the statements are not yours to turn. If you find one false, say at which input.
  Laid BY PROGRAM, IN A SANDBOX (cutbox-rows.mjs): the forced cells as the released guide's own fill.sh prints them over the translation ce66b76624c14878… (all of the seat's roots in one cut). By AI agents, Wed Nov 11 2026. No macro, syntax, notation, axiom, sorry.
-/
import Derived.Test.YtmknebebbbjdlaaGreatChecked
import GoSem.Claim
import GoSem.ClaimJoined
import GoSem.ClaimMapViews
import Derived.JoinedTies
import Derived.KernelRfl
namespace Go.Proofs.YtmknebebbbjdlaaGreat
/- THE CELL 'sum', in the pinned program and in every row, IS THE sha256 OF THE DUMP (.gsa) THAT YtmknebebbbjdlaaGreatProg.lean LOADS. Nothing in Lean hashes anything: it is a label: what it is worth is what the hold of that sum in a sandbox is worth. -/
noncomputable def Tryz.pinned : Pinned := { name := "ytmknebebbbjdlaagreat", sum := "ce66b76624c14878d1fa9f5400ccdff9f2dc5904cec96456110e528cb1ba6429", checked := Tryz.checked }
namespace Rows
def none {H : Type} : Left H := { results := [], args := [] }

/-- 'trestlelaw21.PickleWrites': WHATEVER THE INPUT: true; the input reads as it did. -/
def pickleWritesSpec : ChangeSpec := { name := "pickleWrites", fn := fun _ => fun
  | [d1, d2, d3, d4] => { results := [.lit (.bool true)], args := [d1, d2, d3, d4] }
  | _ => none }
def pickleWritesRow : OpenClaim := { program := "ytmknebebbbjdlaagreat", sum := "ce66b76624c14878d1fa9f5400ccdff9f2dc5904cec96456110e528cb1ba6429", func := "trestle/trestlelaw21.PickleWrites", spec := "pickleWrites", unfollowed := true, recurses := true, apart := false }
def PickleWritesSaid : Prop := pickleWritesRow.holds Tryz.pinned (OpenSpec.ofChange pickleWritesSpec)

/-- ITS FALSE NEIGHBOUR: 'it returns false'. Refute it at one input. -/
def pickleWritesWrong : ChangeSpec := { name := "pickleWrites", fn := fun _ => fun
  | [d1, d2, d3, d4] => { results := [.lit (.bool false)], args := [d1, d2, d3, d4] }
  | _ => none }
def PickleWritesWrongFalsely : Prop := pickleWritesRow.holds Tryz.pinned (OpenSpec.ofChange pickleWritesWrong)

/-- 'trestlelaw21.PickleWhole': WHATEVER THE INPUT: true; the input reads as it did. -/
def pickleWholeSpec : ChangeSpec := { name := "pickleWhole", fn := fun _ => fun
  | [d1, d2, d3] => { results := [.lit (.bool true)], args := [d1, d2, d3] }
  | _ => none }
def pickleWholeRow : OpenClaim := { program := "ytmknebebbbjdlaagreat", sum := "ce66b76624c14878d1fa9f5400ccdff9f2dc5904cec96456110e528cb1ba6429", func := "trestle/trestlelaw21.PickleWhole", spec := "pickleWhole", unfollowed := true, recurses := true, apart := false }
def PickleWholeSaid : Prop := pickleWholeRow.holds Tryz.pinned (OpenSpec.ofChange pickleWholeSpec)

/-- ITS FALSE NEIGHBOUR: 'it returns false'. Refute it at one input. -/
def pickleWholeWrong : ChangeSpec := { name := "pickleWhole", fn := fun _ => fun
  | [d1, d2, d3] => { results := [.lit (.bool false)], args := [d1, d2, d3] }
  | _ => none }
def PickleWholeWrongFalsely : Prop := pickleWholeRow.holds Tryz.pinned (OpenSpec.ofChange pickleWholeWrong)

/-- 'trestlelaw21.PickleAlike': WHATEVER THE INPUT: true; the input reads as it did. -/
def pickleAlikeSpec : ChangeSpec := { name := "pickleAlike", fn := fun _ => fun
  | [d1, d2, d3, d4, d5] => { results := [.lit (.bool true)], args := [d1, d2, d3, d4, d5] }
  | _ => none }
def pickleAlikeRow : OpenClaim := { program := "ytmknebebbbjdlaagreat", sum := "ce66b76624c14878d1fa9f5400ccdff9f2dc5904cec96456110e528cb1ba6429", func := "trestle/trestlelaw21.PickleAlike", spec := "pickleAlike", unfollowed := true, recurses := true, apart := false }
def PickleAlikeSaid : Prop := pickleAlikeRow.holds Tryz.pinned (OpenSpec.ofChange pickleAlikeSpec)

/-- ITS FALSE NEIGHBOUR: 'it returns false'. Refute it at one input. -/
def pickleAlikeWrong : ChangeSpec := { name := "pickleAlike", fn := fun _ => fun
  | [d1, d2, d3, d4, d5] => { results := [.lit (.bool false)], args := [d1, d2, d3, d4, d5] }
  | _ => none }
def PickleAlikeWrongFalsely : Prop := pickleAlikeRow.holds Tryz.pinned (OpenSpec.ofChange pickleAlikeWrong)

/-- 'trestlelaw21.PickleTorn': WHATEVER THE INPUT: true; the input reads as it did. -/
def pickleTornSpec : ChangeSpec := { name := "pickleTorn", fn := fun _ => fun
  | [d1, d2, d3, d4, d5, d6] => { results := [.lit (.bool true)], args := [d1, d2, d3, d4, d5, d6] }
  | _ => none }
def pickleTornRow : OpenClaim := { program := "ytmknebebbbjdlaagreat", sum := "ce66b76624c14878d1fa9f5400ccdff9f2dc5904cec96456110e528cb1ba6429", func := "trestle/trestlelaw21.PickleTorn", spec := "pickleTorn", unfollowed := true, recurses := true, apart := false }
def PickleTornSaid : Prop := pickleTornRow.holds Tryz.pinned (OpenSpec.ofChange pickleTornSpec)

/-- ITS FALSE NEIGHBOUR: 'it returns false'. Refute it at one input. -/
def pickleTornWrong : ChangeSpec := { name := "pickleTorn", fn := fun _ => fun
  | [d1, d2, d3, d4, d5, d6] => { results := [.lit (.bool false)], args := [d1, d2, d3, d4, d5, d6] }
  | _ => none }
def PickleTornWrongFalsely : Prop := pickleTornRow.holds Tryz.pinned (OpenSpec.ofChange pickleTornWrong)

/-- 'trestlelaw21.PickleElsewhere': WHATEVER THE INPUT: true; the input reads as it did. -/
def pickleElsewhereSpec : ChangeSpec := { name := "pickleElsewhere", fn := fun _ => fun
  | [d1, d2, d3, d4, d5] => { results := [.lit (.bool true)], args := [d1, d2, d3, d4, d5] }
  | _ => none }
def pickleElsewhereRow : OpenClaim := { program := "ytmknebebbbjdlaagreat", sum := "ce66b76624c14878d1fa9f5400ccdff9f2dc5904cec96456110e528cb1ba6429", func := "trestle/trestlelaw21.PickleElsewhere", spec := "pickleElsewhere", unfollowed := true, recurses := true, apart := false }
def PickleElsewhereSaid : Prop := pickleElsewhereRow.holds Tryz.pinned (OpenSpec.ofChange pickleElsewhereSpec)

/-- ITS FALSE NEIGHBOUR: 'it returns false'. Refute it at one input. -/
def pickleElsewhereWrong : ChangeSpec := { name := "pickleElsewhere", fn := fun _ => fun
  | [d1, d2, d3, d4, d5] => { results := [.lit (.bool false)], args := [d1, d2, d3, d4, d5] }
  | _ => none }
def PickleElsewhereWrongFalsely : Prop := pickleElsewhereRow.holds Tryz.pinned (OpenSpec.ofChange pickleElsewhereWrong)

/-- 'trestlelaw21.PickleSpecials': WHATEVER THE INPUT: true; the input reads as it did. -/
def pickleSpecialsSpec : ChangeSpec := { name := "pickleSpecials", fn := fun _ => fun
  | [d1, d2, d3, d4] => { results := [.lit (.bool true)], args := [d1, d2, d3, d4] }
  | _ => none }
def pickleSpecialsRow : OpenClaim := { program := "ytmknebebbbjdlaagreat", sum := "ce66b76624c14878d1fa9f5400ccdff9f2dc5904cec96456110e528cb1ba6429", func := "trestle/trestlelaw21.PickleSpecials", spec := "pickleSpecials", unfollowed := true, recurses := true, apart := false }
def PickleSpecialsSaid : Prop := pickleSpecialsRow.holds Tryz.pinned (OpenSpec.ofChange pickleSpecialsSpec)

/-- ITS FALSE NEIGHBOUR: 'it returns false'. Refute it at one input. -/
def pickleSpecialsWrong : ChangeSpec := { name := "pickleSpecials", fn := fun _ => fun
  | [d1, d2, d3, d4] => { results := [.lit (.bool false)], args := [d1, d2, d3, d4] }
  | _ => none }
def PickleSpecialsWrongFalsely : Prop := pickleSpecialsRow.holds Tryz.pinned (OpenSpec.ofChange pickleSpecialsWrong)

/-- 'trestlelaw21.PickleBack': WHATEVER THE INPUT: true; the input reads as it did. -/
def pickleBackSpec : ChangeSpec := { name := "pickleBack", fn := fun _ => fun
  | [d1, d2, d3, d4] => { results := [.lit (.bool true)], args := [d1, d2, d3, d4] }
  | _ => none }
def pickleBackRow : OpenClaim := { program := "ytmknebebbbjdlaagreat", sum := "ce66b76624c14878d1fa9f5400ccdff9f2dc5904cec96456110e528cb1ba6429", func := "trestle/trestlelaw21.PickleBack", spec := "pickleBack", unfollowed := true, recurses := true, apart := false }
def PickleBackSaid : Prop := pickleBackRow.holds Tryz.pinned (OpenSpec.ofChange pickleBackSpec)

/-- ITS FALSE NEIGHBOUR: 'it returns false'. Refute it at one input. -/
def pickleBackWrong : ChangeSpec := { name := "pickleBack", fn := fun _ => fun
  | [d1, d2, d3, d4] => { results := [.lit (.bool false)], args := [d1, d2, d3, d4] }
  | _ => none }
def PickleBackWrongFalsely : Prop := pickleBackRow.holds Tryz.pinned (OpenSpec.ofChange pickleBackWrong)

/-- 'trestlelaw21.PickleReads': WHATEVER THE INPUT: true; the input reads as it did. -/
def pickleReadsSpec : ChangeSpec := { name := "pickleReads", fn := fun _ => fun
  | [d1, d2, d3, d4] => { results := [.lit (.bool true)], args := [d1, d2, d3, d4] }
  | _ => none }
def pickleReadsRow : OpenClaim := { program := "ytmknebebbbjdlaagreat", sum := "ce66b76624c14878d1fa9f5400ccdff9f2dc5904cec96456110e528cb1ba6429", func := "trestle/trestlelaw21.PickleReads", spec := "pickleReads", unfollowed := true, recurses := true, apart := false }
def PickleReadsSaid : Prop := pickleReadsRow.holds Tryz.pinned (OpenSpec.ofChange pickleReadsSpec)

/-- ITS FALSE NEIGHBOUR: 'it returns false'. Refute it at one input. -/
def pickleReadsWrong : ChangeSpec := { name := "pickleReads", fn := fun _ => fun
  | [d1, d2, d3, d4] => { results := [.lit (.bool false)], args := [d1, d2, d3, d4] }
  | _ => none }
def PickleReadsWrongFalsely : Prop := pickleReadsRow.holds Tryz.pinned (OpenSpec.ofChange pickleReadsWrong)

/-- 'trestlelaw21.PickleChecks': WHATEVER THE INPUT: true; the input reads as it did. -/
def pickleChecksSpec : ChangeSpec := { name := "pickleChecks", fn := fun _ => fun
  | [d1, d2, d3, d4, d5, d6, d7] => { results := [.lit (.bool true)], args := [d1, d2, d3, d4, d5, d6, d7] }
  | _ => none }
def pickleChecksRow : OpenClaim := { program := "ytmknebebbbjdlaagreat", sum := "ce66b76624c14878d1fa9f5400ccdff9f2dc5904cec96456110e528cb1ba6429", func := "trestle/trestlelaw21.PickleChecks", spec := "pickleChecks", unfollowed := true, recurses := true, apart := false }
def PickleChecksSaid : Prop := pickleChecksRow.holds Tryz.pinned (OpenSpec.ofChange pickleChecksSpec)

/-- ITS FALSE NEIGHBOUR: 'it returns false'. Refute it at one input. -/
def pickleChecksWrong : ChangeSpec := { name := "pickleChecks", fn := fun _ => fun
  | [d1, d2, d3, d4, d5, d6, d7] => { results := [.lit (.bool false)], args := [d1, d2, d3, d4, d5, d6, d7] }
  | _ => none }
def PickleChecksWrongFalsely : Prop := pickleChecksRow.holds Tryz.pinned (OpenSpec.ofChange pickleChecksWrong)

/-- 'trestlelaw21.PickleInto': WHATEVER THE INPUT: true; the input reads as it did. -/
def pickleIntoSpec : ChangeSpec := { name := "pickleInto", fn := fun _ => fun
  | [d1, d2, d3, d4] => { results := [.lit (.bool true)], args := [d1, d2, d3, d4] }
  | _ => none }
def pickleIntoRow : OpenClaim := { program := "ytmknebebbbjdlaagreat", sum := "ce66b76624c14878d1fa9f5400ccdff9f2dc5904cec96456110e528cb1ba6429", func := "trestle/trestlelaw21.PickleInto", spec := "pickleInto", unfollowed := true, recurses := true, apart := false }
def PickleIntoSaid : Prop := pickleIntoRow.holds Tryz.pinned (OpenSpec.ofChange pickleIntoSpec)

/-- ITS FALSE NEIGHBOUR: 'it returns false'. Refute it at one input. -/
def pickleIntoWrong : ChangeSpec := { name := "pickleInto", fn := fun _ => fun
  | [d1, d2, d3, d4] => { results := [.lit (.bool false)], args := [d1, d2, d3, d4] }
  | _ => none }
def PickleIntoWrongFalsely : Prop := pickleIntoRow.holds Tryz.pinned (OpenSpec.ofChange pickleIntoWrong)

/- THE SECOND FORM. 'bulk': how many values and letters a reading holds, each counted each time it is reached (what is shared counts as often as it is met; a slice's spare places count too). A statement '..UptoSaid' is the law's where the arguments, and the package variables that the reading takes, are together of bulk at most 1048576: NARROWER than '..Said'. Prove '..Said' where nothing that the law and all that it calls make is longer than what came in: it says more and counts as full. Else prove '..UptoSaid'. A law counts once. -/
mutual
def uptoBulk {H : Type} : DataW H → Nat
  | .lit (.string bytes) => bytes.length + 1
  | .lit _ => 1
  | .nil => 1
  | .ptr d => uptoBulk d + 1
  | .slice elems spare => uptoBulkAll elems + uptoBulkAll spare + 1
  | .agg parts => uptoBulkAll parts + 1
  | .iface _ d => uptoBulk d + 1
  | .map entries => uptoBulkEntries entries + 1
  | .held _ => 1
def uptoBulkAll {H : Type} : List (DataW H) → Nat
  | [] => 0
  | d :: r => uptoBulk d + uptoBulkAll r
def uptoBulkEntries {H : Type} : List (Lit × DataW H) → Nat
  | [] => 0
  | x :: r => uptoBulkEntry x + uptoBulkEntries r
def uptoBulkEntry {H : Type} : Lit × DataW H → Nat
  | (.string bytes, d) => bytes.length + uptoBulk d + 1
  | (_, d) => uptoBulk d + 1
 end
def uptoSmall : (H : Type) → List (DataW H) → Bool := fun _ ds => decide (uptoBulkAll ds ≤ 1048576)
def OpenSpec.upto (s : _root_.Go.ChangeSpec) : _root_.Go.OpenSpec := { _root_.Go.OpenSpec.ofChange s with cond := some uptoSmall }

/-- 'trestlelaw21.PickleWrites', WHERE WHAT IT READS IS OF BULK AT MOST 1048576: true; the input reads as it did. -/
def pickleWritesUptoRow : OpenClaim := { program := "ytmknebebbbjdlaagreat", sum := "ce66b76624c14878d1fa9f5400ccdff9f2dc5904cec96456110e528cb1ba6429", func := "trestle/trestlelaw21.PickleWrites", spec := "pickleWrites", unfollowed := true, recurses := true, apart := false, narrowed := true }
def PickleWritesUptoSaid : Prop := pickleWritesUptoRow.holds Tryz.pinned (OpenSpec.upto pickleWritesSpec)

/-- 'trestlelaw21.PickleWhole', WHERE WHAT IT READS IS OF BULK AT MOST 1048576: true; the input reads as it did. -/
def pickleWholeUptoRow : OpenClaim := { program := "ytmknebebbbjdlaagreat", sum := "ce66b76624c14878d1fa9f5400ccdff9f2dc5904cec96456110e528cb1ba6429", func := "trestle/trestlelaw21.PickleWhole", spec := "pickleWhole", unfollowed := true, recurses := true, apart := false, narrowed := true }
def PickleWholeUptoSaid : Prop := pickleWholeUptoRow.holds Tryz.pinned (OpenSpec.upto pickleWholeSpec)

/-- 'trestlelaw21.PickleAlike', WHERE WHAT IT READS IS OF BULK AT MOST 1048576: true; the input reads as it did. -/
def pickleAlikeUptoRow : OpenClaim := { program := "ytmknebebbbjdlaagreat", sum := "ce66b76624c14878d1fa9f5400ccdff9f2dc5904cec96456110e528cb1ba6429", func := "trestle/trestlelaw21.PickleAlike", spec := "pickleAlike", unfollowed := true, recurses := true, apart := false, narrowed := true }
def PickleAlikeUptoSaid : Prop := pickleAlikeUptoRow.holds Tryz.pinned (OpenSpec.upto pickleAlikeSpec)

/-- 'trestlelaw21.PickleTorn', WHERE WHAT IT READS IS OF BULK AT MOST 1048576: true; the input reads as it did. -/
def pickleTornUptoRow : OpenClaim := { program := "ytmknebebbbjdlaagreat", sum := "ce66b76624c14878d1fa9f5400ccdff9f2dc5904cec96456110e528cb1ba6429", func := "trestle/trestlelaw21.PickleTorn", spec := "pickleTorn", unfollowed := true, recurses := true, apart := false, narrowed := true }
def PickleTornUptoSaid : Prop := pickleTornUptoRow.holds Tryz.pinned (OpenSpec.upto pickleTornSpec)

/-- 'trestlelaw21.PickleElsewhere', WHERE WHAT IT READS IS OF BULK AT MOST 1048576: true; the input reads as it did. -/
def pickleElsewhereUptoRow : OpenClaim := { program := "ytmknebebbbjdlaagreat", sum := "ce66b76624c14878d1fa9f5400ccdff9f2dc5904cec96456110e528cb1ba6429", func := "trestle/trestlelaw21.PickleElsewhere", spec := "pickleElsewhere", unfollowed := true, recurses := true, apart := false, narrowed := true }
def PickleElsewhereUptoSaid : Prop := pickleElsewhereUptoRow.holds Tryz.pinned (OpenSpec.upto pickleElsewhereSpec)

/-- 'trestlelaw21.PickleSpecials', WHERE WHAT IT READS IS OF BULK AT MOST 1048576: true; the input reads as it did. -/
def pickleSpecialsUptoRow : OpenClaim := { program := "ytmknebebbbjdlaagreat", sum := "ce66b76624c14878d1fa9f5400ccdff9f2dc5904cec96456110e528cb1ba6429", func := "trestle/trestlelaw21.PickleSpecials", spec := "pickleSpecials", unfollowed := true, recurses := true, apart := false, narrowed := true }
def PickleSpecialsUptoSaid : Prop := pickleSpecialsUptoRow.holds Tryz.pinned (OpenSpec.upto pickleSpecialsSpec)

/-- 'trestlelaw21.PickleBack', WHERE WHAT IT READS IS OF BULK AT MOST 1048576: true; the input reads as it did. -/
def pickleBackUptoRow : OpenClaim := { program := "ytmknebebbbjdlaagreat", sum := "ce66b76624c14878d1fa9f5400ccdff9f2dc5904cec96456110e528cb1ba6429", func := "trestle/trestlelaw21.PickleBack", spec := "pickleBack", unfollowed := true, recurses := true, apart := false, narrowed := true }
def PickleBackUptoSaid : Prop := pickleBackUptoRow.holds Tryz.pinned (OpenSpec.upto pickleBackSpec)

/-- 'trestlelaw21.PickleReads', WHERE WHAT IT READS IS OF BULK AT MOST 1048576: true; the input reads as it did. -/
def pickleReadsUptoRow : OpenClaim := { program := "ytmknebebbbjdlaagreat", sum := "ce66b76624c14878d1fa9f5400ccdff9f2dc5904cec96456110e528cb1ba6429", func := "trestle/trestlelaw21.PickleReads", spec := "pickleReads", unfollowed := true, recurses := true, apart := false, narrowed := true }
def PickleReadsUptoSaid : Prop := pickleReadsUptoRow.holds Tryz.pinned (OpenSpec.upto pickleReadsSpec)

/-- 'trestlelaw21.PickleChecks', WHERE WHAT IT READS IS OF BULK AT MOST 1048576: true; the input reads as it did. -/
def pickleChecksUptoRow : OpenClaim := { program := "ytmknebebbbjdlaagreat", sum := "ce66b76624c14878d1fa9f5400ccdff9f2dc5904cec96456110e528cb1ba6429", func := "trestle/trestlelaw21.PickleChecks", spec := "pickleChecks", unfollowed := true, recurses := true, apart := false, narrowed := true }
def PickleChecksUptoSaid : Prop := pickleChecksUptoRow.holds Tryz.pinned (OpenSpec.upto pickleChecksSpec)

/-- 'trestlelaw21.PickleInto', WHERE WHAT IT READS IS OF BULK AT MOST 1048576: true; the input reads as it did. -/
def pickleIntoUptoRow : OpenClaim := { program := "ytmknebebbbjdlaagreat", sum := "ce66b76624c14878d1fa9f5400ccdff9f2dc5904cec96456110e528cb1ba6429", func := "trestle/trestlelaw21.PickleInto", spec := "pickleInto", unfollowed := true, recurses := true, apart := false, narrowed := true }
def PickleIntoUptoSaid : Prop := pickleIntoUptoRow.holds Tryz.pinned (OpenSpec.upto pickleIntoSpec)

end Rows
end Go.Proofs.YtmknebebbbjdlaaGreat
