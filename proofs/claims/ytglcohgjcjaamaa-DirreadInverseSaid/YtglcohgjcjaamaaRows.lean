/-
  No cell of these rows narrows 'for every input' (looked for: loops, veiled, ifaces, maps, wideKeys, modest, calm, conditions, laid).
  DERIVED. THE GIVEN ROWS OF THIS SEAT. 13 by the template 'for every input the law returns true; each argument reads behind the call as it read before'; 0 by the template 'total and deterministic' (their statements: YtglcohgjcjaamaaTotals.lean).
  GIVEN WITH THE SEED: the statements are not yours to turn. If you find one false, say at which input.
  Laid BY PROGRAM, IN A SANDBOX (cutbox-rows.mjs): the forced cells as the released guide's own fill.sh prints them over the translation 5c58dbcd22013f82… (all of the seat's roots in one cut). By AI agents, Wed Nov 11 2026. No macro, syntax, notation, axiom, sorry.
-/
import Derived.Test.YtglcohgjcjaamaaChecked
import GoSem.Claim
import GoSem.ClaimJoined
import GoSem.ClaimMapViews
import Derived.JoinedTies
import Derived.KernelRfl
namespace Go.Proofs.Ytglcohgjcjaamaa
/- THE CELL 'sum', in the pinned program and in every row, IS THE sha256 OF THE DUMP (.gsa) THAT YtglcohgjcjaamaaProg.lean LOADS. Nothing in Lean hashes anything: it is a label: what it is worth is what the hold of that sum in a sandbox is worth. -/
noncomputable def Try.pinned : Pinned := { name := "ytglcohgjcjaamaa", sum := "5c58dbcd22013f82234429f7906f9e9182a3412ef0807a7a813586315b6b2df1", checked := Try.checked }
namespace Rows
def none {H : Type} : Left H := { results := [], args := [] }

/-- 'filespacelaw11.DirreadStats': WHATEVER THE INPUT: true; the input reads as it did. -/
def dirreadStatsSpec : ChangeSpec := { name := "dirreadStats", fn := fun _ => fun
  | [d1, d2] => { results := [.lit (.bool true)], args := [d1, d2] }
  | _ => none }
def dirreadStatsRow : OpenClaim := { program := "ytglcohgjcjaamaa", sum := "5c58dbcd22013f82234429f7906f9e9182a3412ef0807a7a813586315b6b2df1", func := "filespace/filespacelaw11.DirreadStats", spec := "dirreadStats", inPlace := ["internal/abi.NoEscape", "internal/bytealg.MakeNoZero"], apart := false }
def DirreadStatsSaid : Prop := dirreadStatsRow.holds Try.pinned (OpenSpec.ofChange dirreadStatsSpec)

/-- ITS FALSE NEIGHBOUR: 'it returns false'. Refute it at one input. -/
def dirreadStatsWrong : ChangeSpec := { name := "dirreadStats", fn := fun _ => fun
  | [d1, d2] => { results := [.lit (.bool false)], args := [d1, d2] }
  | _ => none }
def DirreadStatsWrongFalsely : Prop := dirreadStatsRow.holds Try.pinned (OpenSpec.ofChange dirreadStatsWrong)

/-- 'filespacelaw11.DirreadPages': WHATEVER THE INPUT: true; the input reads as it did. -/
def dirreadPagesSpec : ChangeSpec := { name := "dirreadPages", fn := fun _ => fun
  | [d1, d2, d3] => { results := [.lit (.bool true)], args := [d1, d2, d3] }
  | _ => none }
def dirreadPagesRow : OpenClaim := { program := "ytglcohgjcjaamaa", sum := "5c58dbcd22013f82234429f7906f9e9182a3412ef0807a7a813586315b6b2df1", func := "filespace/filespacelaw11.DirreadPages", spec := "dirreadPages", inPlace := ["internal/abi.NoEscape", "internal/bytealg.MakeNoZero"], apart := false }
def DirreadPagesSaid : Prop := dirreadPagesRow.holds Try.pinned (OpenSpec.ofChange dirreadPagesSpec)

/-- ITS FALSE NEIGHBOUR: 'it returns false'. Refute it at one input. -/
def dirreadPagesWrong : ChangeSpec := { name := "dirreadPages", fn := fun _ => fun
  | [d1, d2, d3] => { results := [.lit (.bool false)], args := [d1, d2, d3] }
  | _ => none }
def DirreadPagesWrongFalsely : Prop := dirreadPagesRow.holds Try.pinned (OpenSpec.ofChange dirreadPagesWrong)

/-- 'filespacelaw11.DirreadBounds': WHATEVER THE INPUT: true; the input reads as it did. -/
def dirreadBoundsSpec : ChangeSpec := { name := "dirreadBounds", fn := fun _ => fun
  | [d1, d2] => { results := [.lit (.bool true)], args := [d1, d2] }
  | _ => none }
def dirreadBoundsRow : OpenClaim := { program := "ytglcohgjcjaamaa", sum := "5c58dbcd22013f82234429f7906f9e9182a3412ef0807a7a813586315b6b2df1", func := "filespace/filespacelaw11.DirreadBounds", spec := "dirreadBounds", inPlace := ["internal/abi.NoEscape", "internal/bytealg.MakeNoZero"], apart := false }
def DirreadBoundsSaid : Prop := dirreadBoundsRow.holds Try.pinned (OpenSpec.ofChange dirreadBoundsSpec)

/-- ITS FALSE NEIGHBOUR: 'it returns false'. Refute it at one input. -/
def dirreadBoundsWrong : ChangeSpec := { name := "dirreadBounds", fn := fun _ => fun
  | [d1, d2] => { results := [.lit (.bool false)], args := [d1, d2] }
  | _ => none }
def DirreadBoundsWrongFalsely : Prop := dirreadBoundsRow.holds Try.pinned (OpenSpec.ofChange dirreadBoundsWrong)

/-- 'filespacelaw11.DirreadAlls': WHATEVER THE INPUT: true; the input reads as it did. -/
def dirreadAllsSpec : ChangeSpec := { name := "dirreadAlls", fn := fun _ => fun
  | [d1, d2] => { results := [.lit (.bool true)], args := [d1, d2] }
  | _ => none }
def dirreadAllsRow : OpenClaim := { program := "ytglcohgjcjaamaa", sum := "5c58dbcd22013f82234429f7906f9e9182a3412ef0807a7a813586315b6b2df1", func := "filespace/filespacelaw11.DirreadAlls", spec := "dirreadAlls", inPlace := ["internal/abi.NoEscape", "internal/bytealg.MakeNoZero"], apart := false }
def DirreadAllsSaid : Prop := dirreadAllsRow.holds Try.pinned (OpenSpec.ofChange dirreadAllsSpec)

/-- ITS FALSE NEIGHBOUR: 'it returns false'. Refute it at one input. -/
def dirreadAllsWrong : ChangeSpec := { name := "dirreadAlls", fn := fun _ => fun
  | [d1, d2] => { results := [.lit (.bool false)], args := [d1, d2] }
  | _ => none }
def DirreadAllsWrongFalsely : Prop := dirreadAllsRow.holds Try.pinned (OpenSpec.ofChange dirreadAllsWrong)

/-- 'filespacelaw11.DirreadJoins': WHATEVER THE INPUT: true; the input reads as it did. -/
def dirreadJoinsSpec : ChangeSpec := { name := "dirreadJoins", fn := fun _ => fun
  | [d1, d2] => { results := [.lit (.bool true)], args := [d1, d2] }
  | _ => none }
def dirreadJoinsRow : OpenClaim := { program := "ytglcohgjcjaamaa", sum := "5c58dbcd22013f82234429f7906f9e9182a3412ef0807a7a813586315b6b2df1", func := "filespace/filespacelaw11.DirreadJoins", spec := "dirreadJoins", inPlace := ["internal/abi.NoEscape", "internal/bytealg.MakeNoZero"], apart := false }
def DirreadJoinsSaid : Prop := dirreadJoinsRow.holds Try.pinned (OpenSpec.ofChange dirreadJoinsSpec)

/-- ITS FALSE NEIGHBOUR: 'it returns false'. Refute it at one input. -/
def dirreadJoinsWrong : ChangeSpec := { name := "dirreadJoins", fn := fun _ => fun
  | [d1, d2] => { results := [.lit (.bool false)], args := [d1, d2] }
  | _ => none }
def DirreadJoinsWrongFalsely : Prop := dirreadJoinsRow.holds Try.pinned (OpenSpec.ofChange dirreadJoinsWrong)

/-- 'filespacelaw07.StatChecks': WHATEVER THE INPUT: true; the input reads as it did. -/
def statChecksSpec : ChangeSpec := { name := "statChecks", fn := fun _ => fun
  | [d] => { results := [.lit (.bool true)], args := [d] }
  | _ => none }
def statChecksRow : OpenClaim := { program := "ytglcohgjcjaamaa", sum := "5c58dbcd22013f82234429f7906f9e9182a3412ef0807a7a813586315b6b2df1", func := "filespace/filespacelaw07.StatChecks", spec := "statChecks", inPlace := ["internal/abi.NoEscape", "internal/bytealg.MakeNoZero", "internal/bytealg.CountString", "internal/bytealg.IndexByteString", "internal/bytealg.IndexString"], named := ["internal/bytealg.MaxLen"], apart := false }
def StatChecksSaid : Prop := statChecksRow.holds Try.pinned (OpenSpec.ofChange statChecksSpec)

/-- ITS FALSE NEIGHBOUR: 'it returns false'. Refute it at one input. -/
def statChecksWrong : ChangeSpec := { name := "statChecks", fn := fun _ => fun
  | [d] => { results := [.lit (.bool false)], args := [d] }
  | _ => none }
def StatChecksWrongFalsely : Prop := statChecksRow.holds Try.pinned (OpenSpec.ofChange statChecksWrong)

/-- 'filespacelaw07.StatPuts': WHATEVER THE INPUT: true; the input reads as it did. -/
def statPutsSpec : ChangeSpec := { name := "statPuts", fn := fun _ => fun
  | [d] => { results := [.lit (.bool true)], args := [d] }
  | _ => none }
def statPutsRow : OpenClaim := { program := "ytglcohgjcjaamaa", sum := "5c58dbcd22013f82234429f7906f9e9182a3412ef0807a7a813586315b6b2df1", func := "filespace/filespacelaw07.StatPuts", spec := "statPuts", inPlace := ["internal/abi.NoEscape", "internal/bytealg.MakeNoZero", "internal/bytealg.CountString", "internal/bytealg.IndexByteString", "internal/bytealg.IndexString"], named := ["internal/bytealg.MaxLen"], apart := false }
def StatPutsSaid : Prop := statPutsRow.holds Try.pinned (OpenSpec.ofChange statPutsSpec)

/-- ITS FALSE NEIGHBOUR: 'it returns false'. Refute it at one input. -/
def statPutsWrong : ChangeSpec := { name := "statPuts", fn := fun _ => fun
  | [d] => { results := [.lit (.bool false)], args := [d] }
  | _ => none }
def StatPutsWrongFalsely : Prop := statPutsRow.holds Try.pinned (OpenSpec.ofChange statPutsWrong)

/-- 'filespacelaw07.StatGets': WHATEVER THE INPUT: true; the input reads as it did. -/
def statGetsSpec : ChangeSpec := { name := "statGets", fn := fun _ => fun
  | [d1, d2] => { results := [.lit (.bool true)], args := [d1, d2] }
  | _ => none }
def statGetsRow : OpenClaim := { program := "ytglcohgjcjaamaa", sum := "5c58dbcd22013f82234429f7906f9e9182a3412ef0807a7a813586315b6b2df1", func := "filespace/filespacelaw07.StatGets", spec := "statGets", inPlace := ["internal/abi.NoEscape", "internal/bytealg.MakeNoZero", "internal/bytealg.CountString", "internal/bytealg.IndexByteString", "internal/bytealg.IndexString"], named := ["internal/bytealg.MaxLen"], apart := false }
def StatGetsSaid : Prop := statGetsRow.holds Try.pinned (OpenSpec.ofChange statGetsSpec)

/-- ITS FALSE NEIGHBOUR: 'it returns false'. Refute it at one input. -/
def statGetsWrong : ChangeSpec := { name := "statGets", fn := fun _ => fun
  | [d1, d2] => { results := [.lit (.bool false)], args := [d1, d2] }
  | _ => none }
def StatGetsWrongFalsely : Prop := statGetsRow.holds Try.pinned (OpenSpec.ofChange statGetsWrong)

/-- 'filespacelaw07.StatNones': WHATEVER THE INPUT: true; the input reads as it did. -/
def statNonesSpec : ChangeSpec := { name := "statNones", fn := fun _ => fun
  | [d] => { results := [.lit (.bool true)], args := [d] }
  | _ => none }
def statNonesRow : OpenClaim := { program := "ytglcohgjcjaamaa", sum := "5c58dbcd22013f82234429f7906f9e9182a3412ef0807a7a813586315b6b2df1", func := "filespace/filespacelaw07.StatNones", spec := "statNones", inPlace := ["internal/abi.NoEscape", "internal/bytealg.MakeNoZero", "internal/bytealg.CountString", "internal/bytealg.IndexByteString", "internal/bytealg.IndexString"], named := ["internal/bytealg.MaxLen"], apart := false }
def StatNonesSaid : Prop := statNonesRow.holds Try.pinned (OpenSpec.ofChange statNonesSpec)

/-- ITS FALSE NEIGHBOUR: 'it returns false'. Refute it at one input. -/
def statNonesWrong : ChangeSpec := { name := "statNones", fn := fun _ => fun
  | [d] => { results := [.lit (.bool false)], args := [d] }
  | _ => none }
def StatNonesWrongFalsely : Prop := statNonesRow.holds Try.pinned (OpenSpec.ofChange statNonesWrong)

/-- 'filespacelaw07.StatReturns': WHATEVER THE INPUT: true; the input reads as it did. -/
def statReturnsSpec : ChangeSpec := { name := "statReturns", fn := fun _ => fun
  | [d1, d2, d3] => { results := [.lit (.bool true)], args := [d1, d2, d3] }
  | _ => none }
def statReturnsRow : OpenClaim := { program := "ytglcohgjcjaamaa", sum := "5c58dbcd22013f82234429f7906f9e9182a3412ef0807a7a813586315b6b2df1", func := "filespace/filespacelaw07.StatReturns", spec := "statReturns", inPlace := ["internal/abi.NoEscape", "internal/bytealg.MakeNoZero", "internal/bytealg.CountString", "internal/bytealg.IndexByteString", "internal/bytealg.IndexString"], named := ["internal/bytealg.MaxLen"], apart := false }
def StatReturnsSaid : Prop := statReturnsRow.holds Try.pinned (OpenSpec.ofChange statReturnsSpec)

/-- ITS FALSE NEIGHBOUR: 'it returns false'. Refute it at one input. -/
def statReturnsWrong : ChangeSpec := { name := "statReturns", fn := fun _ => fun
  | [d1, d2, d3] => { results := [.lit (.bool false)], args := [d1, d2, d3] }
  | _ => none }
def StatReturnsWrongFalsely : Prop := statReturnsRow.holds Try.pinned (OpenSpec.ofChange statReturnsWrong)

/-- 'filespacelaw07.StatLists': WHATEVER THE INPUT: true; the input reads as it did. -/
def statListsSpec : ChangeSpec := { name := "statLists", fn := fun _ => fun
  | [d] => { results := [.lit (.bool true)], args := [d] }
  | _ => none }
def statListsRow : OpenClaim := { program := "ytglcohgjcjaamaa", sum := "5c58dbcd22013f82234429f7906f9e9182a3412ef0807a7a813586315b6b2df1", func := "filespace/filespacelaw07.StatLists", spec := "statLists", inPlace := ["internal/abi.NoEscape", "internal/bytealg.MakeNoZero", "internal/bytealg.CountString", "internal/bytealg.IndexByteString", "internal/bytealg.IndexString"], named := ["internal/bytealg.MaxLen"], apart := false }
def StatListsSaid : Prop := statListsRow.holds Try.pinned (OpenSpec.ofChange statListsSpec)

/-- ITS FALSE NEIGHBOUR: 'it returns false'. Refute it at one input. -/
def statListsWrong : ChangeSpec := { name := "statLists", fn := fun _ => fun
  | [d] => { results := [.lit (.bool false)], args := [d] }
  | _ => none }
def StatListsWrongFalsely : Prop := statListsRow.holds Try.pinned (OpenSpec.ofChange statListsWrong)

/-- 'filespacelaw07.StatJoins': WHATEVER THE INPUT: true; the input reads as it did. -/
def statJoinsSpec : ChangeSpec := { name := "statJoins", fn := fun _ => fun
  | [d] => { results := [.lit (.bool true)], args := [d] }
  | _ => none }
def statJoinsRow : OpenClaim := { program := "ytglcohgjcjaamaa", sum := "5c58dbcd22013f82234429f7906f9e9182a3412ef0807a7a813586315b6b2df1", func := "filespace/filespacelaw07.StatJoins", spec := "statJoins", inPlace := ["internal/abi.NoEscape", "internal/bytealg.MakeNoZero", "internal/bytealg.CountString", "internal/bytealg.IndexByteString", "internal/bytealg.IndexString"], named := ["internal/bytealg.MaxLen"], apart := false }
def StatJoinsSaid : Prop := statJoinsRow.holds Try.pinned (OpenSpec.ofChange statJoinsSpec)

/-- ITS FALSE NEIGHBOUR: 'it returns false'. Refute it at one input. -/
def statJoinsWrong : ChangeSpec := { name := "statJoins", fn := fun _ => fun
  | [d] => { results := [.lit (.bool false)], args := [d] }
  | _ => none }
def StatJoinsWrongFalsely : Prop := statJoinsRow.holds Try.pinned (OpenSpec.ofChange statJoinsWrong)

/-- 'filespacelaw11.DirreadInverse': WHATEVER THE INPUT: true; the input reads as it did. -/
def dirreadInverseSpec : ChangeSpec := { name := "dirreadInverse", fn := fun _ => fun
  | [d1, d2] => { results := [.lit (.bool true)], args := [d1, d2] }
  | _ => none }
def dirreadInverseRow : OpenClaim := { program := "ytglcohgjcjaamaa", sum := "5c58dbcd22013f82234429f7906f9e9182a3412ef0807a7a813586315b6b2df1", func := "filespace/filespacelaw11.DirreadInverse", spec := "dirreadInverse", inPlace := ["internal/abi.NoEscape", "internal/bytealg.MakeNoZero", "internal/bytealg.CountString", "internal/bytealg.IndexByteString", "internal/bytealg.IndexString"], named := ["internal/bytealg.MaxLen"], apart := false }
def DirreadInverseSaid : Prop := dirreadInverseRow.holds Try.pinned (OpenSpec.ofChange dirreadInverseSpec)

/-- ITS FALSE NEIGHBOUR: 'it returns false'. Refute it at one input. -/
def dirreadInverseWrong : ChangeSpec := { name := "dirreadInverse", fn := fun _ => fun
  | [d1, d2] => { results := [.lit (.bool false)], args := [d1, d2] }
  | _ => none }
def DirreadInverseWrongFalsely : Prop := dirreadInverseRow.holds Try.pinned (OpenSpec.ofChange dirreadInverseWrong)

/- THE SECOND FORM. 'bulk': how many values and letters a reading holds, each counted each time it is reached (what is shared counts as often as it is met; a slice's spare places count too). A statement '..UptoSaid' is the law's where the arguments, and the package variables that the reading takes, are together of bulk at most 1048576: NARROWER than '..Said'. Prove '..Said' where nothing that the law and all that it calls make is longer than what came in: it says more and counts as full. Else prove '..UptoSaid'. A law counts once. -/
mutual
def uptoBulk {H : Type} : DataW H → Nat
  | .lit (.string bytes) => bytes.length + 1
  | .lit _ => 1
  | .nil => 1
  | .ptr d => uptoBulk d + 1
  | .slice elems spare => uptoBulkAll elems + uptoBulkAll spare + 1
  | .agg parts => uptoBulkAll parts + 1
  | .iface _ d => uptoBulk d + 1
  | .map entries => uptoBulkEntries entries + 1
  | .held _ => 1
def uptoBulkAll {H : Type} : List (DataW H) → Nat
  | [] => 0
  | d :: r => uptoBulk d + uptoBulkAll r
def uptoBulkEntries {H : Type} : List (Lit × DataW H) → Nat
  | [] => 0
  | x :: r => uptoBulkEntry x + uptoBulkEntries r
def uptoBulkEntry {H : Type} : Lit × DataW H → Nat
  | (.string bytes, d) => bytes.length + uptoBulk d + 1
  | (_, d) => uptoBulk d + 1
 end
def uptoSmall : (H : Type) → List (DataW H) → Bool := fun _ ds => decide (uptoBulkAll ds ≤ 1048576)
def OpenSpec.upto (s : _root_.Go.ChangeSpec) : _root_.Go.OpenSpec := { _root_.Go.OpenSpec.ofChange s with cond := some uptoSmall }

/-- 'filespacelaw11.DirreadStats', WHERE WHAT IT READS IS OF BULK AT MOST 1048576: true; the input reads as it did. -/
def dirreadStatsUptoRow : OpenClaim := { program := "ytglcohgjcjaamaa", sum := "5c58dbcd22013f82234429f7906f9e9182a3412ef0807a7a813586315b6b2df1", func := "filespace/filespacelaw11.DirreadStats", spec := "dirreadStats", inPlace := ["internal/abi.NoEscape", "internal/bytealg.MakeNoZero"], apart := false, narrowed := true }
def DirreadStatsUptoSaid : Prop := dirreadStatsUptoRow.holds Try.pinned (OpenSpec.upto dirreadStatsSpec)

/-- 'filespacelaw11.DirreadPages', WHERE WHAT IT READS IS OF BULK AT MOST 1048576: true; the input reads as it did. -/
def dirreadPagesUptoRow : OpenClaim := { program := "ytglcohgjcjaamaa", sum := "5c58dbcd22013f82234429f7906f9e9182a3412ef0807a7a813586315b6b2df1", func := "filespace/filespacelaw11.DirreadPages", spec := "dirreadPages", inPlace := ["internal/abi.NoEscape", "internal/bytealg.MakeNoZero"], apart := false, narrowed := true }
def DirreadPagesUptoSaid : Prop := dirreadPagesUptoRow.holds Try.pinned (OpenSpec.upto dirreadPagesSpec)

/-- 'filespacelaw11.DirreadBounds', WHERE WHAT IT READS IS OF BULK AT MOST 1048576: true; the input reads as it did. -/
def dirreadBoundsUptoRow : OpenClaim := { program := "ytglcohgjcjaamaa", sum := "5c58dbcd22013f82234429f7906f9e9182a3412ef0807a7a813586315b6b2df1", func := "filespace/filespacelaw11.DirreadBounds", spec := "dirreadBounds", inPlace := ["internal/abi.NoEscape", "internal/bytealg.MakeNoZero"], apart := false, narrowed := true }
def DirreadBoundsUptoSaid : Prop := dirreadBoundsUptoRow.holds Try.pinned (OpenSpec.upto dirreadBoundsSpec)

/-- 'filespacelaw11.DirreadAlls', WHERE WHAT IT READS IS OF BULK AT MOST 1048576: true; the input reads as it did. -/
def dirreadAllsUptoRow : OpenClaim := { program := "ytglcohgjcjaamaa", sum := "5c58dbcd22013f82234429f7906f9e9182a3412ef0807a7a813586315b6b2df1", func := "filespace/filespacelaw11.DirreadAlls", spec := "dirreadAlls", inPlace := ["internal/abi.NoEscape", "internal/bytealg.MakeNoZero"], apart := false, narrowed := true }
def DirreadAllsUptoSaid : Prop := dirreadAllsUptoRow.holds Try.pinned (OpenSpec.upto dirreadAllsSpec)

/-- 'filespacelaw11.DirreadJoins', WHERE WHAT IT READS IS OF BULK AT MOST 1048576: true; the input reads as it did. -/
def dirreadJoinsUptoRow : OpenClaim := { program := "ytglcohgjcjaamaa", sum := "5c58dbcd22013f82234429f7906f9e9182a3412ef0807a7a813586315b6b2df1", func := "filespace/filespacelaw11.DirreadJoins", spec := "dirreadJoins", inPlace := ["internal/abi.NoEscape", "internal/bytealg.MakeNoZero"], apart := false, narrowed := true }
def DirreadJoinsUptoSaid : Prop := dirreadJoinsUptoRow.holds Try.pinned (OpenSpec.upto dirreadJoinsSpec)

/-- 'filespacelaw07.StatChecks', WHERE WHAT IT READS IS OF BULK AT MOST 1048576: true; the input reads as it did. -/
def statChecksUptoRow : OpenClaim := { program := "ytglcohgjcjaamaa", sum := "5c58dbcd22013f82234429f7906f9e9182a3412ef0807a7a813586315b6b2df1", func := "filespace/filespacelaw07.StatChecks", spec := "statChecks", inPlace := ["internal/abi.NoEscape", "internal/bytealg.MakeNoZero", "internal/bytealg.CountString", "internal/bytealg.IndexByteString", "internal/bytealg.IndexString"], named := ["internal/bytealg.MaxLen"], apart := false, narrowed := true }
def StatChecksUptoSaid : Prop := statChecksUptoRow.holds Try.pinned (OpenSpec.upto statChecksSpec)

/-- 'filespacelaw07.StatPuts', WHERE WHAT IT READS IS OF BULK AT MOST 1048576: true; the input reads as it did. -/
def statPutsUptoRow : OpenClaim := { program := "ytglcohgjcjaamaa", sum := "5c58dbcd22013f82234429f7906f9e9182a3412ef0807a7a813586315b6b2df1", func := "filespace/filespacelaw07.StatPuts", spec := "statPuts", inPlace := ["internal/abi.NoEscape", "internal/bytealg.MakeNoZero", "internal/bytealg.CountString", "internal/bytealg.IndexByteString", "internal/bytealg.IndexString"], named := ["internal/bytealg.MaxLen"], apart := false, narrowed := true }
def StatPutsUptoSaid : Prop := statPutsUptoRow.holds Try.pinned (OpenSpec.upto statPutsSpec)

/-- 'filespacelaw07.StatGets', WHERE WHAT IT READS IS OF BULK AT MOST 1048576: true; the input reads as it did. -/
def statGetsUptoRow : OpenClaim := { program := "ytglcohgjcjaamaa", sum := "5c58dbcd22013f82234429f7906f9e9182a3412ef0807a7a813586315b6b2df1", func := "filespace/filespacelaw07.StatGets", spec := "statGets", inPlace := ["internal/abi.NoEscape", "internal/bytealg.MakeNoZero", "internal/bytealg.CountString", "internal/bytealg.IndexByteString", "internal/bytealg.IndexString"], named := ["internal/bytealg.MaxLen"], apart := false, narrowed := true }
def StatGetsUptoSaid : Prop := statGetsUptoRow.holds Try.pinned (OpenSpec.upto statGetsSpec)

/-- 'filespacelaw07.StatNones', WHERE WHAT IT READS IS OF BULK AT MOST 1048576: true; the input reads as it did. -/
def statNonesUptoRow : OpenClaim := { program := "ytglcohgjcjaamaa", sum := "5c58dbcd22013f82234429f7906f9e9182a3412ef0807a7a813586315b6b2df1", func := "filespace/filespacelaw07.StatNones", spec := "statNones", inPlace := ["internal/abi.NoEscape", "internal/bytealg.MakeNoZero", "internal/bytealg.CountString", "internal/bytealg.IndexByteString", "internal/bytealg.IndexString"], named := ["internal/bytealg.MaxLen"], apart := false, narrowed := true }
def StatNonesUptoSaid : Prop := statNonesUptoRow.holds Try.pinned (OpenSpec.upto statNonesSpec)

/-- 'filespacelaw07.StatReturns', WHERE WHAT IT READS IS OF BULK AT MOST 1048576: true; the input reads as it did. -/
def statReturnsUptoRow : OpenClaim := { program := "ytglcohgjcjaamaa", sum := "5c58dbcd22013f82234429f7906f9e9182a3412ef0807a7a813586315b6b2df1", func := "filespace/filespacelaw07.StatReturns", spec := "statReturns", inPlace := ["internal/abi.NoEscape", "internal/bytealg.MakeNoZero", "internal/bytealg.CountString", "internal/bytealg.IndexByteString", "internal/bytealg.IndexString"], named := ["internal/bytealg.MaxLen"], apart := false, narrowed := true }
def StatReturnsUptoSaid : Prop := statReturnsUptoRow.holds Try.pinned (OpenSpec.upto statReturnsSpec)

/-- 'filespacelaw07.StatLists', WHERE WHAT IT READS IS OF BULK AT MOST 1048576: true; the input reads as it did. -/
def statListsUptoRow : OpenClaim := { program := "ytglcohgjcjaamaa", sum := "5c58dbcd22013f82234429f7906f9e9182a3412ef0807a7a813586315b6b2df1", func := "filespace/filespacelaw07.StatLists", spec := "statLists", inPlace := ["internal/abi.NoEscape", "internal/bytealg.MakeNoZero", "internal/bytealg.CountString", "internal/bytealg.IndexByteString", "internal/bytealg.IndexString"], named := ["internal/bytealg.MaxLen"], apart := false, narrowed := true }
def StatListsUptoSaid : Prop := statListsUptoRow.holds Try.pinned (OpenSpec.upto statListsSpec)

/-- 'filespacelaw07.StatJoins', WHERE WHAT IT READS IS OF BULK AT MOST 1048576: true; the input reads as it did. -/
def statJoinsUptoRow : OpenClaim := { program := "ytglcohgjcjaamaa", sum := "5c58dbcd22013f82234429f7906f9e9182a3412ef0807a7a813586315b6b2df1", func := "filespace/filespacelaw07.StatJoins", spec := "statJoins", inPlace := ["internal/abi.NoEscape", "internal/bytealg.MakeNoZero", "internal/bytealg.CountString", "internal/bytealg.IndexByteString", "internal/bytealg.IndexString"], named := ["internal/bytealg.MaxLen"], apart := false, narrowed := true }
def StatJoinsUptoSaid : Prop := statJoinsUptoRow.holds Try.pinned (OpenSpec.upto statJoinsSpec)

/-- 'filespacelaw11.DirreadInverse', WHERE WHAT IT READS IS OF BULK AT MOST 1048576: true; the input reads as it did. -/
def dirreadInverseUptoRow : OpenClaim := { program := "ytglcohgjcjaamaa", sum := "5c58dbcd22013f82234429f7906f9e9182a3412ef0807a7a813586315b6b2df1", func := "filespace/filespacelaw11.DirreadInverse", spec := "dirreadInverse", inPlace := ["internal/abi.NoEscape", "internal/bytealg.MakeNoZero", "internal/bytealg.CountString", "internal/bytealg.IndexByteString", "internal/bytealg.IndexString"], named := ["internal/bytealg.MaxLen"], apart := false, narrowed := true }
def DirreadInverseUptoSaid : Prop := dirreadInverseUptoRow.holds Try.pinned (OpenSpec.upto dirreadInverseSpec)

end Rows
end Go.Proofs.Ytglcohgjcjaamaa
