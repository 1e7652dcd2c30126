/-
  NARROWER THAN 'FOR EVERY INPUT', by the rows' own cells (each row's printed sentence says how): ArchivePuts: laid · ArchiveTrees: laid · ArchiveGets: laid · ArchiveChanges: laid · ArchiveRestores: laid · ArchiveReads: laid · ArchiveReturns: laid.
  DERIVED. THE GIVEN ROWS OF THIS SEAT. 7 by the template 'for every input the law returns true; each argument reads behind the call as it read before'; 0 by the template 'total and deterministic' (their statements: YtfdmakpcmkbhhaaGreatDoorTotals.lean).
  GIVEN WITH THE SEED: the statements are not yours to turn. If you find one false, say at which input.
  Laid BY PROGRAM, IN A SANDBOX (cutbox-rows.mjs): the forced cells as the released guide's own fill.sh prints them over the translation c4978e069f4a4e58… (all of the seat's roots in one cut). By AI agents, Wed Nov 11 2026. No macro, syntax, notation, axiom, sorry.
-/
import Derived.Test.YtfdmakpcmkbhhaaGreatDoorChecked
import GoSem.Claim
import GoSem.ClaimJoined
import GoSem.ClaimMapViews
import Derived.JoinedTies
import Derived.KernelRfl
namespace Go.Proofs.YtfdmakpcmkbhhaaGreatDoor
/- THE CELL 'sum', in the pinned program and in every row, IS THE sha256 OF THE DUMP (.gsa) THAT YtfdmakpcmkbhhaaGreatDoorProg.lean LOADS. Nothing in Lean hashes anything: it is a label: what it is worth is what the hold of that sum in a sandbox is worth. -/
noncomputable def Tryz.pinned : Pinned := { name := "ytfdmakpcmkbhhaagreatdoor", sum := "c4978e069f4a4e58fba5ef8394d1a1ceb446d0c39d5aabeca828aae58ebf1b4c", checked := Tryz.checked }
namespace Rows
def none {H : Type} : Left H := { results := [], args := [] }

/- WHAT THE LISTED PACKAGE-LEVEL VARIABLES READ AS WHEN THE CALL BEGINS. Each datum BY PROGRAM (the guide's laid-datum.mjs) off the statement by which the dump's own 'gosem.cut.vars' lays the variable. In a bare row this is a premise. The card (YtfdmakpcmkbhhaaGreatDoorCards.lean) ties it to the program's text. -/
def laid_filespace_hash_rounds {H : Type} : DataW H := .agg [.lit (.int .u32 1116352408), .lit (.int .u32 1899447441), .lit (.int .u32 3049323471), .lit (.int .u32 3921009573), .lit (.int .u32 961987163), .lit (.int .u32 1508970993), .lit (.int .u32 2453635748), .lit (.int .u32 2870763221), .lit (.int .u32 3624381080), .lit (.int .u32 310598401), .lit (.int .u32 607225278), .lit (.int .u32 1426881987), .lit (.int .u32 1925078388), .lit (.int .u32 2162078206), .lit (.int .u32 2614888103), .lit (.int .u32 3248222580), .lit (.int .u32 3835390401), .lit (.int .u32 4022224774), .lit (.int .u32 264347078), .lit (.int .u32 604807628), .lit (.int .u32 770255983), .lit (.int .u32 1249150122), .lit (.int .u32 1555081692), .lit (.int .u32 1996064986), .lit (.int .u32 2554220882), .lit (.int .u32 2821834349), .lit (.int .u32 2952996808), .lit (.int .u32 3210313671), .lit (.int .u32 3336571891), .lit (.int .u32 3584528711), .lit (.int .u32 113926993), .lit (.int .u32 338241895), .lit (.int .u32 666307205), .lit (.int .u32 773529912), .lit (.int .u32 1294757372), .lit (.int .u32 1396182291), .lit (.int .u32 1695183700), .lit (.int .u32 1986661051), .lit (.int .u32 2177026350), .lit (.int .u32 2456956037), .lit (.int .u32 2730485921), .lit (.int .u32 2820302411), .lit (.int .u32 3259730800), .lit (.int .u32 3345764771), .lit (.int .u32 3516065817), .lit (.int .u32 3600352804), .lit (.int .u32 4094571909), .lit (.int .u32 275423344), .lit (.int .u32 430227734), .lit (.int .u32 506948616), .lit (.int .u32 659060556), .lit (.int .u32 883997877), .lit (.int .u32 958139571), .lit (.int .u32 1322822218), .lit (.int .u32 1537002063), .lit (.int .u32 1747873779), .lit (.int .u32 1955562222), .lit (.int .u32 2024104815), .lit (.int .u32 2227730452), .lit (.int .u32 2361852424), .lit (.int .u32 2428436474), .lit (.int .u32 2756734187), .lit (.int .u32 3204031479), .lit (.int .u32 3329325298)]

/-- 'filespacelaw16.ArchivePuts': WHATEVER THE INPUT: true; the input reads as it did. -/
def archivePutsSpec : ChangeSpec := { name := "archivePuts", fn := fun _ => fun
  | [d1, d2] => { results := [.lit (.bool true)], args := [d1, d2] }
  | _ => none }
def archivePutsRow : OpenClaim := { program := "ytfdmakpcmkbhhaagreatdoor", sum := "c4978e069f4a4e58fba5ef8394d1a1ceb446d0c39d5aabeca828aae58ebf1b4c", func := "filespace/filespacelaw16.ArchivePuts", spec := "archivePuts", inPlace := ["internal/abi.NoEscape"], unfollowed := true, recurses := true, named := ["filespace/hash.rounds"], plainKeys := false, apart := false, laid := [("filespace/hash.rounds", laid_filespace_hash_rounds)] }
def ArchivePutsSaid : Prop := archivePutsRow.holds Tryz.pinned (OpenSpec.ofChange archivePutsSpec)

/-- ITS FALSE NEIGHBOUR: 'it returns false'. Refute it at one input. -/
def archivePutsWrong : ChangeSpec := { name := "archivePuts", fn := fun _ => fun
  | [d1, d2] => { results := [.lit (.bool false)], args := [d1, d2] }
  | _ => none }
def ArchivePutsWrongFalsely : Prop := archivePutsRow.holds Tryz.pinned (OpenSpec.ofChange archivePutsWrong)

/-- 'filespacelaw16.ArchiveTrees': WHATEVER THE INPUT: true; the input reads as it did. -/
def archiveTreesSpec : ChangeSpec := { name := "archiveTrees", fn := fun _ => fun
  | [d1, d2] => { results := [.lit (.bool true)], args := [d1, d2] }
  | _ => none }
def archiveTreesRow : OpenClaim := { program := "ytfdmakpcmkbhhaagreatdoor", sum := "c4978e069f4a4e58fba5ef8394d1a1ceb446d0c39d5aabeca828aae58ebf1b4c", func := "filespace/filespacelaw16.ArchiveTrees", spec := "archiveTrees", inPlace := ["internal/abi.NoEscape"], unfollowed := true, recurses := true, named := ["filespace/hash.rounds"], plainKeys := false, apart := false, laid := [("filespace/hash.rounds", laid_filespace_hash_rounds)] }
def ArchiveTreesSaid : Prop := archiveTreesRow.holds Tryz.pinned (OpenSpec.ofChange archiveTreesSpec)

/-- ITS FALSE NEIGHBOUR: 'it returns false'. Refute it at one input. -/
def archiveTreesWrong : ChangeSpec := { name := "archiveTrees", fn := fun _ => fun
  | [d1, d2] => { results := [.lit (.bool false)], args := [d1, d2] }
  | _ => none }
def ArchiveTreesWrongFalsely : Prop := archiveTreesRow.holds Tryz.pinned (OpenSpec.ofChange archiveTreesWrong)

/-- 'filespacelaw16.ArchiveGets': WHATEVER THE INPUT: true; the input reads as it did. -/
def archiveGetsSpec : ChangeSpec := { name := "archiveGets", fn := fun _ => fun
  | [d1, d2] => { results := [.lit (.bool true)], args := [d1, d2] }
  | _ => none }
def archiveGetsRow : OpenClaim := { program := "ytfdmakpcmkbhhaagreatdoor", sum := "c4978e069f4a4e58fba5ef8394d1a1ceb446d0c39d5aabeca828aae58ebf1b4c", func := "filespace/filespacelaw16.ArchiveGets", spec := "archiveGets", inPlace := ["internal/abi.NoEscape"], unfollowed := true, recurses := true, named := ["filespace/hash.rounds"], plainKeys := false, apart := false, laid := [("filespace/hash.rounds", laid_filespace_hash_rounds)] }
def ArchiveGetsSaid : Prop := archiveGetsRow.holds Tryz.pinned (OpenSpec.ofChange archiveGetsSpec)

/-- ITS FALSE NEIGHBOUR: 'it returns false'. Refute it at one input. -/
def archiveGetsWrong : ChangeSpec := { name := "archiveGets", fn := fun _ => fun
  | [d1, d2] => { results := [.lit (.bool false)], args := [d1, d2] }
  | _ => none }
def ArchiveGetsWrongFalsely : Prop := archiveGetsRow.holds Tryz.pinned (OpenSpec.ofChange archiveGetsWrong)

/-- 'filespacelaw16.ArchiveChanges': WHATEVER THE INPUT: true; the input reads as it did. -/
def archiveChangesSpec : ChangeSpec := { name := "archiveChanges", fn := fun _ => fun
  | [d1, d2] => { results := [.lit (.bool true)], args := [d1, d2] }
  | _ => none }
def archiveChangesRow : OpenClaim := { program := "ytfdmakpcmkbhhaagreatdoor", sum := "c4978e069f4a4e58fba5ef8394d1a1ceb446d0c39d5aabeca828aae58ebf1b4c", func := "filespace/filespacelaw16.ArchiveChanges", spec := "archiveChanges", inPlace := ["internal/abi.NoEscape"], unfollowed := true, recurses := true, named := ["filespace/hash.rounds"], plainKeys := false, apart := false, laid := [("filespace/hash.rounds", laid_filespace_hash_rounds)] }
def ArchiveChangesSaid : Prop := archiveChangesRow.holds Tryz.pinned (OpenSpec.ofChange archiveChangesSpec)

/-- ITS FALSE NEIGHBOUR: 'it returns false'. Refute it at one input. -/
def archiveChangesWrong : ChangeSpec := { name := "archiveChanges", fn := fun _ => fun
  | [d1, d2] => { results := [.lit (.bool false)], args := [d1, d2] }
  | _ => none }
def ArchiveChangesWrongFalsely : Prop := archiveChangesRow.holds Tryz.pinned (OpenSpec.ofChange archiveChangesWrong)

/-- 'filespacelaw16.ArchiveRestores': WHATEVER THE INPUT: true; the input reads as it did. -/
def archiveRestoresSpec : ChangeSpec := { name := "archiveRestores", fn := fun _ => fun
  | [d1, d2, d3] => { results := [.lit (.bool true)], args := [d1, d2, d3] }
  | _ => none }
def archiveRestoresRow : OpenClaim := { program := "ytfdmakpcmkbhhaagreatdoor", sum := "c4978e069f4a4e58fba5ef8394d1a1ceb446d0c39d5aabeca828aae58ebf1b4c", func := "filespace/filespacelaw16.ArchiveRestores", spec := "archiveRestores", inPlace := ["internal/abi.NoEscape"], unfollowed := true, recurses := true, named := ["filespace/hash.rounds"], plainKeys := false, apart := false, laid := [("filespace/hash.rounds", laid_filespace_hash_rounds)] }
def ArchiveRestoresSaid : Prop := archiveRestoresRow.holds Tryz.pinned (OpenSpec.ofChange archiveRestoresSpec)

/-- ITS FALSE NEIGHBOUR: 'it returns false'. Refute it at one input. -/
def archiveRestoresWrong : ChangeSpec := { name := "archiveRestores", fn := fun _ => fun
  | [d1, d2, d3] => { results := [.lit (.bool false)], args := [d1, d2, d3] }
  | _ => none }
def ArchiveRestoresWrongFalsely : Prop := archiveRestoresRow.holds Tryz.pinned (OpenSpec.ofChange archiveRestoresWrong)

/-- 'filespacelaw16.ArchiveReads': WHATEVER THE INPUT: true; the input reads as it did. -/
def archiveReadsSpec : ChangeSpec := { name := "archiveReads", fn := fun _ => fun
  | [d1, d2, d3] => { results := [.lit (.bool true)], args := [d1, d2, d3] }
  | _ => none }
def archiveReadsRow : OpenClaim := { program := "ytfdmakpcmkbhhaagreatdoor", sum := "c4978e069f4a4e58fba5ef8394d1a1ceb446d0c39d5aabeca828aae58ebf1b4c", func := "filespace/filespacelaw16.ArchiveReads", spec := "archiveReads", inPlace := ["internal/abi.NoEscape"], unfollowed := true, recurses := true, named := ["filespace/hash.rounds"], plainKeys := false, apart := false, laid := [("filespace/hash.rounds", laid_filespace_hash_rounds)] }
def ArchiveReadsSaid : Prop := archiveReadsRow.holds Tryz.pinned (OpenSpec.ofChange archiveReadsSpec)

/-- ITS FALSE NEIGHBOUR: 'it returns false'. Refute it at one input. -/
def archiveReadsWrong : ChangeSpec := { name := "archiveReads", fn := fun _ => fun
  | [d1, d2, d3] => { results := [.lit (.bool false)], args := [d1, d2, d3] }
  | _ => none }
def ArchiveReadsWrongFalsely : Prop := archiveReadsRow.holds Tryz.pinned (OpenSpec.ofChange archiveReadsWrong)

/-- 'filespacelaw16.ArchiveReturns': WHATEVER THE INPUT: true; the input reads as it did. -/
def archiveReturnsSpec : ChangeSpec := { name := "archiveReturns", fn := fun _ => fun
  | [d1, d2, d3] => { results := [.lit (.bool true)], args := [d1, d2, d3] }
  | _ => none }
def archiveReturnsRow : OpenClaim := { program := "ytfdmakpcmkbhhaagreatdoor", sum := "c4978e069f4a4e58fba5ef8394d1a1ceb446d0c39d5aabeca828aae58ebf1b4c", func := "filespace/filespacelaw16.ArchiveReturns", spec := "archiveReturns", inPlace := ["internal/abi.NoEscape"], unfollowed := true, recurses := true, named := ["filespace/hash.rounds"], plainKeys := false, apart := false, laid := [("filespace/hash.rounds", laid_filespace_hash_rounds)] }
def ArchiveReturnsSaid : Prop := archiveReturnsRow.holds Tryz.pinned (OpenSpec.ofChange archiveReturnsSpec)

/-- ITS FALSE NEIGHBOUR: 'it returns false'. Refute it at one input. -/
def archiveReturnsWrong : ChangeSpec := { name := "archiveReturns", fn := fun _ => fun
  | [d1, d2, d3] => { results := [.lit (.bool false)], args := [d1, d2, d3] }
  | _ => none }
def ArchiveReturnsWrongFalsely : Prop := archiveReturnsRow.holds Tryz.pinned (OpenSpec.ofChange archiveReturnsWrong)

/- THE SECOND FORM. 'bulk': how many values and letters a reading holds, each counted each time it is reached (what is shared counts as often as it is met; a slice's spare places count too). A statement '..UptoSaid' is the law's where the arguments, and the package variables that the reading takes, are together of bulk at most 1048576: NARROWER than '..Said'. Prove '..Said' where nothing that the law and all that it calls make is longer than what came in: it says more and counts as full. Else prove '..UptoSaid'. A law counts once. -/
mutual
def uptoBulk {H : Type} : DataW H → Nat
  | .lit (.string bytes) => bytes.length + 1
  | .lit _ => 1
  | .nil => 1
  | .ptr d => uptoBulk d + 1
  | .slice elems spare => uptoBulkAll elems + uptoBulkAll spare + 1
  | .agg parts => uptoBulkAll parts + 1
  | .iface _ d => uptoBulk d + 1
  | .map entries => uptoBulkEntries entries + 1
  | .held _ => 1
def uptoBulkAll {H : Type} : List (DataW H) → Nat
  | [] => 0
  | d :: r => uptoBulk d + uptoBulkAll r
def uptoBulkEntries {H : Type} : List (Lit × DataW H) → Nat
  | [] => 0
  | x :: r => uptoBulkEntry x + uptoBulkEntries r
def uptoBulkEntry {H : Type} : Lit × DataW H → Nat
  | (.string bytes, d) => bytes.length + uptoBulk d + 1
  | (_, d) => uptoBulk d + 1
 end
def uptoSmall : (H : Type) → List (DataW H) → Bool := fun _ ds => decide (uptoBulkAll ds ≤ 1048576)
def OpenSpec.upto (s : _root_.Go.ChangeSpec) : _root_.Go.OpenSpec := { _root_.Go.OpenSpec.ofChange s with cond := some uptoSmall }

/-- 'filespacelaw16.ArchivePuts', WHERE WHAT IT READS IS OF BULK AT MOST 1048576: true; the input reads as it did. -/
def archivePutsUptoRow : OpenClaim := { program := "ytfdmakpcmkbhhaagreatdoor", sum := "c4978e069f4a4e58fba5ef8394d1a1ceb446d0c39d5aabeca828aae58ebf1b4c", func := "filespace/filespacelaw16.ArchivePuts", spec := "archivePuts", inPlace := ["internal/abi.NoEscape"], unfollowed := true, recurses := true, named := ["filespace/hash.rounds"], plainKeys := false, apart := false, laid := [("filespace/hash.rounds", laid_filespace_hash_rounds)], narrowed := true }
def ArchivePutsUptoSaid : Prop := archivePutsUptoRow.holds Tryz.pinned (OpenSpec.upto archivePutsSpec)

/-- 'filespacelaw16.ArchiveTrees', WHERE WHAT IT READS IS OF BULK AT MOST 1048576: true; the input reads as it did. -/
def archiveTreesUptoRow : OpenClaim := { program := "ytfdmakpcmkbhhaagreatdoor", sum := "c4978e069f4a4e58fba5ef8394d1a1ceb446d0c39d5aabeca828aae58ebf1b4c", func := "filespace/filespacelaw16.ArchiveTrees", spec := "archiveTrees", inPlace := ["internal/abi.NoEscape"], unfollowed := true, recurses := true, named := ["filespace/hash.rounds"], plainKeys := false, apart := false, laid := [("filespace/hash.rounds", laid_filespace_hash_rounds)], narrowed := true }
def ArchiveTreesUptoSaid : Prop := archiveTreesUptoRow.holds Tryz.pinned (OpenSpec.upto archiveTreesSpec)

/-- 'filespacelaw16.ArchiveGets', WHERE WHAT IT READS IS OF BULK AT MOST 1048576: true; the input reads as it did. -/
def archiveGetsUptoRow : OpenClaim := { program := "ytfdmakpcmkbhhaagreatdoor", sum := "c4978e069f4a4e58fba5ef8394d1a1ceb446d0c39d5aabeca828aae58ebf1b4c", func := "filespace/filespacelaw16.ArchiveGets", spec := "archiveGets", inPlace := ["internal/abi.NoEscape"], unfollowed := true, recurses := true, named := ["filespace/hash.rounds"], plainKeys := false, apart := false, laid := [("filespace/hash.rounds", laid_filespace_hash_rounds)], narrowed := true }
def ArchiveGetsUptoSaid : Prop := archiveGetsUptoRow.holds Tryz.pinned (OpenSpec.upto archiveGetsSpec)

/-- 'filespacelaw16.ArchiveChanges', WHERE WHAT IT READS IS OF BULK AT MOST 1048576: true; the input reads as it did. -/
def archiveChangesUptoRow : OpenClaim := { program := "ytfdmakpcmkbhhaagreatdoor", sum := "c4978e069f4a4e58fba5ef8394d1a1ceb446d0c39d5aabeca828aae58ebf1b4c", func := "filespace/filespacelaw16.ArchiveChanges", spec := "archiveChanges", inPlace := ["internal/abi.NoEscape"], unfollowed := true, recurses := true, named := ["filespace/hash.rounds"], plainKeys := false, apart := false, laid := [("filespace/hash.rounds", laid_filespace_hash_rounds)], narrowed := true }
def ArchiveChangesUptoSaid : Prop := archiveChangesUptoRow.holds Tryz.pinned (OpenSpec.upto archiveChangesSpec)

/-- 'filespacelaw16.ArchiveRestores', WHERE WHAT IT READS IS OF BULK AT MOST 1048576: true; the input reads as it did. -/
def archiveRestoresUptoRow : OpenClaim := { program := "ytfdmakpcmkbhhaagreatdoor", sum := "c4978e069f4a4e58fba5ef8394d1a1ceb446d0c39d5aabeca828aae58ebf1b4c", func := "filespace/filespacelaw16.ArchiveRestores", spec := "archiveRestores", inPlace := ["internal/abi.NoEscape"], unfollowed := true, recurses := true, named := ["filespace/hash.rounds"], plainKeys := false, apart := false, laid := [("filespace/hash.rounds", laid_filespace_hash_rounds)], narrowed := true }
def ArchiveRestoresUptoSaid : Prop := archiveRestoresUptoRow.holds Tryz.pinned (OpenSpec.upto archiveRestoresSpec)

/-- 'filespacelaw16.ArchiveReads', WHERE WHAT IT READS IS OF BULK AT MOST 1048576: true; the input reads as it did. -/
def archiveReadsUptoRow : OpenClaim := { program := "ytfdmakpcmkbhhaagreatdoor", sum := "c4978e069f4a4e58fba5ef8394d1a1ceb446d0c39d5aabeca828aae58ebf1b4c", func := "filespace/filespacelaw16.ArchiveReads", spec := "archiveReads", inPlace := ["internal/abi.NoEscape"], unfollowed := true, recurses := true, named := ["filespace/hash.rounds"], plainKeys := false, apart := false, laid := [("filespace/hash.rounds", laid_filespace_hash_rounds)], narrowed := true }
def ArchiveReadsUptoSaid : Prop := archiveReadsUptoRow.holds Tryz.pinned (OpenSpec.upto archiveReadsSpec)

/-- 'filespacelaw16.ArchiveReturns', WHERE WHAT IT READS IS OF BULK AT MOST 1048576: true; the input reads as it did. -/
def archiveReturnsUptoRow : OpenClaim := { program := "ytfdmakpcmkbhhaagreatdoor", sum := "c4978e069f4a4e58fba5ef8394d1a1ceb446d0c39d5aabeca828aae58ebf1b4c", func := "filespace/filespacelaw16.ArchiveReturns", spec := "archiveReturns", inPlace := ["internal/abi.NoEscape"], unfollowed := true, recurses := true, named := ["filespace/hash.rounds"], plainKeys := false, apart := false, laid := [("filespace/hash.rounds", laid_filespace_hash_rounds)], narrowed := true }
def ArchiveReturnsUptoSaid : Prop := archiveReturnsUptoRow.holds Tryz.pinned (OpenSpec.upto archiveReturnsSpec)

end Rows
end Go.Proofs.YtfdmakpcmkbhhaaGreatDoor
