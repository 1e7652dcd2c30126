/-
  No cell of these rows narrows 'for every input' (looked for: loops, veiled, ifaces, maps, wideKeys, modest, calm, conditions, laid).
  DERIVED. THE GIVEN ROWS OF THIS SEAT. 7 by the template 'for every input the law returns true; each argument reads behind the call as it read before'; 0 by the template 'total and deterministic' (their statements: YtebcipkdnlfboaaGreatTotals.lean).
  GIVEN WITH THE SEED: the statements are not yours to turn. If you find one false, say at which input.
  Laid BY PROGRAM, IN A SANDBOX (cutbox-rows.mjs): the forced cells as the released guide's own fill.sh prints them over the translation c1de9c7da2d8bd34… (all of the seat's roots in one cut). By AI agents, Wed Nov 11 2026. No macro, syntax, notation, axiom, sorry.
-/
import Derived.Test.YtebcipkdnlfboaaGreatChecked
import GoSem.Claim
import GoSem.ClaimJoined
import GoSem.ClaimMapViews
import Derived.JoinedTies
import Derived.KernelRfl
namespace Go.Proofs.YtebcipkdnlfboaaGreat
/- THE CELL 'sum', in the pinned program and in every row, IS THE sha256 OF THE DUMP (.gsa) THAT YtebcipkdnlfboaaGreatProg.lean LOADS. Nothing in Lean hashes anything: it is a label: what it is worth is what the hold of that sum in a sandbox is worth. -/
noncomputable def Tryz.pinned : Pinned := { name := "ytebcipkdnlfboaagreat", sum := "c1de9c7da2d8bd34781ce0a3b174904203439c84ca425d74950ad7d950472c9e", checked := Tryz.checked }
namespace Rows
def none {H : Type} : Left H := { results := [], args := [] }

/-- 'filespacelaw13.FilesrvNews': WHATEVER THE INPUT: true; the input reads as it did. -/
def filesrvNewsSpec : ChangeSpec := { name := "filesrvNews", fn := fun _ => fun
  | [d1, d2, d3, d4] => { results := [.lit (.bool true)], args := [d1, d2, d3, d4] }
  | _ => none }
def filesrvNewsRow : OpenClaim := { program := "ytebcipkdnlfboaagreat", sum := "c1de9c7da2d8bd34781ce0a3b174904203439c84ca425d74950ad7d950472c9e", func := "filespace/filespacelaw13.FilesrvNews", spec := "filesrvNews", inPlace := ["slices.overlaps[int]", "internal/abi.NoEscape", "internal/bytealg.MakeNoZero"], unfollowed := true, recurses := true, plainKeys := false, apart := false }
def FilesrvNewsSaid : Prop := filesrvNewsRow.holds Tryz.pinned (OpenSpec.ofChange filesrvNewsSpec)

/-- ITS FALSE NEIGHBOUR: 'it returns false'. Refute it at one input. -/
def filesrvNewsWrong : ChangeSpec := { name := "filesrvNews", fn := fun _ => fun
  | [d1, d2, d3, d4] => { results := [.lit (.bool false)], args := [d1, d2, d3, d4] }
  | _ => none }
def FilesrvNewsWrongFalsely : Prop := filesrvNewsRow.holds Tryz.pinned (OpenSpec.ofChange filesrvNewsWrong)

/-- 'filespacelaw13.FilesrvRight': WHATEVER THE INPUT: true; the input reads as it did. -/
def filesrvRightSpec : ChangeSpec := { name := "filesrvRight", fn := fun _ => fun
  | [d] => { results := [.lit (.bool true)], args := [d] }
  | _ => none }
def filesrvRightRow : OpenClaim := { program := "ytebcipkdnlfboaagreat", sum := "c1de9c7da2d8bd34781ce0a3b174904203439c84ca425d74950ad7d950472c9e", func := "filespace/filespacelaw13.FilesrvRight", spec := "filesrvRight", inPlace := ["slices.overlaps[int]", "internal/abi.NoEscape", "internal/bytealg.MakeNoZero"], unfollowed := true, recurses := true, plainKeys := false, apart := false }
def FilesrvRightSaid : Prop := filesrvRightRow.holds Tryz.pinned (OpenSpec.ofChange filesrvRightSpec)

/-- ITS FALSE NEIGHBOUR: 'it returns false'. Refute it at one input. -/
def filesrvRightWrong : ChangeSpec := { name := "filesrvRight", fn := fun _ => fun
  | [d] => { results := [.lit (.bool false)], args := [d] }
  | _ => none }
def FilesrvRightWrongFalsely : Prop := filesrvRightRow.holds Tryz.pinned (OpenSpec.ofChange filesrvRightWrong)

/-- 'filespacelaw13.FilesrvReads': WHATEVER THE INPUT: true; the input reads as it did. -/
def filesrvReadsSpec : ChangeSpec := { name := "filesrvReads", fn := fun _ => fun
  | [d1, d2, d3, d4, d5, d6] => { results := [.lit (.bool true)], args := [d1, d2, d3, d4, d5, d6] }
  | _ => none }
def filesrvReadsRow : OpenClaim := { program := "ytebcipkdnlfboaagreat", sum := "c1de9c7da2d8bd34781ce0a3b174904203439c84ca425d74950ad7d950472c9e", func := "filespace/filespacelaw13.FilesrvReads", spec := "filesrvReads", inPlace := ["slices.overlaps[int]", "internal/abi.NoEscape", "internal/bytealg.MakeNoZero"], unfollowed := true, recurses := true, plainKeys := false, apart := false }
def FilesrvReadsSaid : Prop := filesrvReadsRow.holds Tryz.pinned (OpenSpec.ofChange filesrvReadsSpec)

/-- ITS FALSE NEIGHBOUR: 'it returns false'. Refute it at one input. -/
def filesrvReadsWrong : ChangeSpec := { name := "filesrvReads", fn := fun _ => fun
  | [d1, d2, d3, d4, d5, d6] => { results := [.lit (.bool false)], args := [d1, d2, d3, d4, d5, d6] }
  | _ => none }
def FilesrvReadsWrongFalsely : Prop := filesrvReadsRow.holds Tryz.pinned (OpenSpec.ofChange filesrvReadsWrong)

/-- 'filespacelaw13.FilesrvPlays': WHATEVER THE INPUT: true; the input reads as it did. -/
def filesrvPlaysSpec : ChangeSpec := { name := "filesrvPlays", fn := fun _ => fun
  | [d1, d2, d3, d4] => { results := [.lit (.bool true)], args := [d1, d2, d3, d4] }
  | _ => none }
def filesrvPlaysRow : OpenClaim := { program := "ytebcipkdnlfboaagreat", sum := "c1de9c7da2d8bd34781ce0a3b174904203439c84ca425d74950ad7d950472c9e", func := "filespace/filespacelaw13.FilesrvPlays", spec := "filesrvPlays", inPlace := ["slices.overlaps[int]", "internal/abi.NoEscape", "internal/bytealg.MakeNoZero"], unfollowed := true, recurses := true, plainKeys := false, apart := false }
def FilesrvPlaysSaid : Prop := filesrvPlaysRow.holds Tryz.pinned (OpenSpec.ofChange filesrvPlaysSpec)

/-- ITS FALSE NEIGHBOUR: 'it returns false'. Refute it at one input. -/
def filesrvPlaysWrong : ChangeSpec := { name := "filesrvPlays", fn := fun _ => fun
  | [d1, d2, d3, d4] => { results := [.lit (.bool false)], args := [d1, d2, d3, d4] }
  | _ => none }
def FilesrvPlaysWrongFalsely : Prop := filesrvPlaysRow.holds Tryz.pinned (OpenSpec.ofChange filesrvPlaysWrong)

/-- 'filespacelaw13.FilesrvRights': WHATEVER THE INPUT: true; the input reads as it did. -/
def filesrvRightsSpec : ChangeSpec := { name := "filesrvRights", fn := fun _ => fun
  | [d1, d2] => { results := [.lit (.bool true)], args := [d1, d2] }
  | _ => none }
def filesrvRightsRow : OpenClaim := { program := "ytebcipkdnlfboaagreat", sum := "c1de9c7da2d8bd34781ce0a3b174904203439c84ca425d74950ad7d950472c9e", func := "filespace/filespacelaw13.FilesrvRights", spec := "filesrvRights", inPlace := ["slices.overlaps[int]", "internal/abi.NoEscape", "internal/bytealg.MakeNoZero"], unfollowed := true, recurses := true, plainKeys := false, apart := false }
def FilesrvRightsSaid : Prop := filesrvRightsRow.holds Tryz.pinned (OpenSpec.ofChange filesrvRightsSpec)

/-- ITS FALSE NEIGHBOUR: 'it returns false'. Refute it at one input. -/
def filesrvRightsWrong : ChangeSpec := { name := "filesrvRights", fn := fun _ => fun
  | [d1, d2] => { results := [.lit (.bool false)], args := [d1, d2] }
  | _ => none }
def FilesrvRightsWrongFalsely : Prop := filesrvRightsRow.holds Tryz.pinned (OpenSpec.ofChange filesrvRightsWrong)

/-- 'filespacelaw13.FilesrvQuotas': WHATEVER THE INPUT: true; the input reads as it did. -/
def filesrvQuotasSpec : ChangeSpec := { name := "filesrvQuotas", fn := fun _ => fun
  | [d1, d2] => { results := [.lit (.bool true)], args := [d1, d2] }
  | _ => none }
def filesrvQuotasRow : OpenClaim := { program := "ytebcipkdnlfboaagreat", sum := "c1de9c7da2d8bd34781ce0a3b174904203439c84ca425d74950ad7d950472c9e", func := "filespace/filespacelaw13.FilesrvQuotas", spec := "filesrvQuotas", inPlace := ["slices.overlaps[int]", "internal/abi.NoEscape", "internal/bytealg.MakeNoZero"], unfollowed := true, recurses := true, plainKeys := false, apart := false }
def FilesrvQuotasSaid : Prop := filesrvQuotasRow.holds Tryz.pinned (OpenSpec.ofChange filesrvQuotasSpec)

/-- ITS FALSE NEIGHBOUR: 'it returns false'. Refute it at one input. -/
def filesrvQuotasWrong : ChangeSpec := { name := "filesrvQuotas", fn := fun _ => fun
  | [d1, d2] => { results := [.lit (.bool false)], args := [d1, d2] }
  | _ => none }
def FilesrvQuotasWrongFalsely : Prop := filesrvQuotasRow.holds Tryz.pinned (OpenSpec.ofChange filesrvQuotasWrong)

/-- 'filespacelaw13.FilesrvCalls': WHATEVER THE INPUT: true; the input reads as it did. -/
def filesrvCallsSpec : ChangeSpec := { name := "filesrvCalls", fn := fun _ => fun
  | [d1, d2] => { results := [.lit (.bool true)], args := [d1, d2] }
  | _ => none }
def filesrvCallsRow : OpenClaim := { program := "ytebcipkdnlfboaagreat", sum := "c1de9c7da2d8bd34781ce0a3b174904203439c84ca425d74950ad7d950472c9e", func := "filespace/filespacelaw13.FilesrvCalls", spec := "filesrvCalls", inPlace := ["slices.overlaps[int]", "internal/abi.NoEscape", "internal/bytealg.MakeNoZero"], unfollowed := true, recurses := true, plainKeys := false, apart := false }
def FilesrvCallsSaid : Prop := filesrvCallsRow.holds Tryz.pinned (OpenSpec.ofChange filesrvCallsSpec)

/-- ITS FALSE NEIGHBOUR: 'it returns false'. Refute it at one input. -/
def filesrvCallsWrong : ChangeSpec := { name := "filesrvCalls", fn := fun _ => fun
  | [d1, d2] => { results := [.lit (.bool false)], args := [d1, d2] }
  | _ => none }
def FilesrvCallsWrongFalsely : Prop := filesrvCallsRow.holds Tryz.pinned (OpenSpec.ofChange filesrvCallsWrong)

/- THE SECOND FORM. 'bulk': how many values and letters a reading holds, each counted each time it is reached (what is shared counts as often as it is met; a slice's spare places count too). A statement '..UptoSaid' is the law's where the arguments, and the package variables that the reading takes, are together of bulk at most 1048576: NARROWER than '..Said'. Prove '..Said' where nothing that the law and all that it calls make is longer than what came in: it says more and counts as full. Else prove '..UptoSaid'. A law counts once. -/
mutual
def uptoBulk {H : Type} : DataW H → Nat
  | .lit (.string bytes) => bytes.length + 1
  | .lit _ => 1
  | .nil => 1
  | .ptr d => uptoBulk d + 1
  | .slice elems spare => uptoBulkAll elems + uptoBulkAll spare + 1
  | .agg parts => uptoBulkAll parts + 1
  | .iface _ d => uptoBulk d + 1
  | .map entries => uptoBulkEntries entries + 1
  | .held _ => 1
def uptoBulkAll {H : Type} : List (DataW H) → Nat
  | [] => 0
  | d :: r => uptoBulk d + uptoBulkAll r
def uptoBulkEntries {H : Type} : List (Lit × DataW H) → Nat
  | [] => 0
  | x :: r => uptoBulkEntry x + uptoBulkEntries r
def uptoBulkEntry {H : Type} : Lit × DataW H → Nat
  | (.string bytes, d) => bytes.length + uptoBulk d + 1
  | (_, d) => uptoBulk d + 1
 end
def uptoSmall : (H : Type) → List (DataW H) → Bool := fun _ ds => decide (uptoBulkAll ds ≤ 1048576)
def OpenSpec.upto (s : _root_.Go.ChangeSpec) : _root_.Go.OpenSpec := { _root_.Go.OpenSpec.ofChange s with cond := some uptoSmall }

/-- 'filespacelaw13.FilesrvNews', WHERE WHAT IT READS IS OF BULK AT MOST 1048576: true; the input reads as it did. -/
def filesrvNewsUptoRow : OpenClaim := { program := "ytebcipkdnlfboaagreat", sum := "c1de9c7da2d8bd34781ce0a3b174904203439c84ca425d74950ad7d950472c9e", func := "filespace/filespacelaw13.FilesrvNews", spec := "filesrvNews", inPlace := ["slices.overlaps[int]", "internal/abi.NoEscape", "internal/bytealg.MakeNoZero"], unfollowed := true, recurses := true, plainKeys := false, apart := false, narrowed := true }
def FilesrvNewsUptoSaid : Prop := filesrvNewsUptoRow.holds Tryz.pinned (OpenSpec.upto filesrvNewsSpec)

/-- 'filespacelaw13.FilesrvRight', WHERE WHAT IT READS IS OF BULK AT MOST 1048576: true; the input reads as it did. -/
def filesrvRightUptoRow : OpenClaim := { program := "ytebcipkdnlfboaagreat", sum := "c1de9c7da2d8bd34781ce0a3b174904203439c84ca425d74950ad7d950472c9e", func := "filespace/filespacelaw13.FilesrvRight", spec := "filesrvRight", inPlace := ["slices.overlaps[int]", "internal/abi.NoEscape", "internal/bytealg.MakeNoZero"], unfollowed := true, recurses := true, plainKeys := false, apart := false, narrowed := true }
def FilesrvRightUptoSaid : Prop := filesrvRightUptoRow.holds Tryz.pinned (OpenSpec.upto filesrvRightSpec)

/-- 'filespacelaw13.FilesrvReads', WHERE WHAT IT READS IS OF BULK AT MOST 1048576: true; the input reads as it did. -/
def filesrvReadsUptoRow : OpenClaim := { program := "ytebcipkdnlfboaagreat", sum := "c1de9c7da2d8bd34781ce0a3b174904203439c84ca425d74950ad7d950472c9e", func := "filespace/filespacelaw13.FilesrvReads", spec := "filesrvReads", inPlace := ["slices.overlaps[int]", "internal/abi.NoEscape", "internal/bytealg.MakeNoZero"], unfollowed := true, recurses := true, plainKeys := false, apart := false, narrowed := true }
def FilesrvReadsUptoSaid : Prop := filesrvReadsUptoRow.holds Tryz.pinned (OpenSpec.upto filesrvReadsSpec)

/-- 'filespacelaw13.FilesrvPlays', WHERE WHAT IT READS IS OF BULK AT MOST 1048576: true; the input reads as it did. -/
def filesrvPlaysUptoRow : OpenClaim := { program := "ytebcipkdnlfboaagreat", sum := "c1de9c7da2d8bd34781ce0a3b174904203439c84ca425d74950ad7d950472c9e", func := "filespace/filespacelaw13.FilesrvPlays", spec := "filesrvPlays", inPlace := ["slices.overlaps[int]", "internal/abi.NoEscape", "internal/bytealg.MakeNoZero"], unfollowed := true, recurses := true, plainKeys := false, apart := false, narrowed := true }
def FilesrvPlaysUptoSaid : Prop := filesrvPlaysUptoRow.holds Tryz.pinned (OpenSpec.upto filesrvPlaysSpec)

/-- 'filespacelaw13.FilesrvRights', WHERE WHAT IT READS IS OF BULK AT MOST 1048576: true; the input reads as it did. -/
def filesrvRightsUptoRow : OpenClaim := { program := "ytebcipkdnlfboaagreat", sum := "c1de9c7da2d8bd34781ce0a3b174904203439c84ca425d74950ad7d950472c9e", func := "filespace/filespacelaw13.FilesrvRights", spec := "filesrvRights", inPlace := ["slices.overlaps[int]", "internal/abi.NoEscape", "internal/bytealg.MakeNoZero"], unfollowed := true, recurses := true, plainKeys := false, apart := false, narrowed := true }
def FilesrvRightsUptoSaid : Prop := filesrvRightsUptoRow.holds Tryz.pinned (OpenSpec.upto filesrvRightsSpec)

/-- 'filespacelaw13.FilesrvQuotas', WHERE WHAT IT READS IS OF BULK AT MOST 1048576: true; the input reads as it did. -/
def filesrvQuotasUptoRow : OpenClaim := { program := "ytebcipkdnlfboaagreat", sum := "c1de9c7da2d8bd34781ce0a3b174904203439c84ca425d74950ad7d950472c9e", func := "filespace/filespacelaw13.FilesrvQuotas", spec := "filesrvQuotas", inPlace := ["slices.overlaps[int]", "internal/abi.NoEscape", "internal/bytealg.MakeNoZero"], unfollowed := true, recurses := true, plainKeys := false, apart := false, narrowed := true }
def FilesrvQuotasUptoSaid : Prop := filesrvQuotasUptoRow.holds Tryz.pinned (OpenSpec.upto filesrvQuotasSpec)

/-- 'filespacelaw13.FilesrvCalls', WHERE WHAT IT READS IS OF BULK AT MOST 1048576: true; the input reads as it did. -/
def filesrvCallsUptoRow : OpenClaim := { program := "ytebcipkdnlfboaagreat", sum := "c1de9c7da2d8bd34781ce0a3b174904203439c84ca425d74950ad7d950472c9e", func := "filespace/filespacelaw13.FilesrvCalls", spec := "filesrvCalls", inPlace := ["slices.overlaps[int]", "internal/abi.NoEscape", "internal/bytealg.MakeNoZero"], unfollowed := true, recurses := true, plainKeys := false, apart := false, narrowed := true }
def FilesrvCallsUptoSaid : Prop := filesrvCallsUptoRow.holds Tryz.pinned (OpenSpec.upto filesrvCallsSpec)

end Rows
end Go.Proofs.YtebcipkdnlfboaaGreat
