/-
  No cell of these rows narrows 'for every input' (looked for: loops, veiled, ifaces, maps, wideKeys, modest, calm, conditions, laid).
  DERIVED. THE GIVEN ROWS OF THIS SEAT. 7 by the template 'for every input the law returns true; each argument reads behind the call as it read before'; 0 by the template 'total and deterministic' (their statements: YtolgkhjkdadhiaaGreatTotals.lean).
  GIVEN WITH THE SEED: the statements are not yours to turn. If you find one false, say at which input.
  Laid BY PROGRAM, IN A SANDBOX (cutbox-rows.mjs): the forced cells as the released guide's own fill.sh prints them over the translation d22d89e0a0af2d9e… (all of the seat's roots in one cut). By AI agents, Wed Nov 11 2026. No macro, syntax, notation, axiom, sorry.
-/
import Derived.Test.YtolgkhjkdadhiaaGreatChecked
import GoSem.Claim
import GoSem.ClaimJoined
import GoSem.ClaimMapViews
import Derived.JoinedTies
import Derived.KernelRfl
namespace Go.Proofs.YtolgkhjkdadhiaaGreat
/- THE CELL 'sum', in the pinned program and in every row, IS THE sha256 OF THE DUMP (.gsa) THAT YtolgkhjkdadhiaaGreatProg.lean LOADS. Nothing in Lean hashes anything: it is a label: what it is worth is what the hold of that sum in a sandbox is worth. -/
noncomputable def Tryz.pinned : Pinned := { name := "ytolgkhjkdadhiaagreat", sum := "d22d89e0a0af2d9ea3984c93c3aa216823d1b94fe03478d952257483cf013044", checked := Tryz.checked }
namespace Rows
def none {H : Type} : Left H := { results := [], args := [] }

/-- 'filespacelaw38.RpcRight': WHATEVER THE INPUT: true; the input reads as it did. -/
def rpcRightSpec : ChangeSpec := { name := "rpcRight", fn := fun _ => fun
  | [d] => { results := [.lit (.bool true)], args := [d] }
  | _ => none }
def rpcRightRow : OpenClaim := { program := "ytolgkhjkdadhiaagreat", sum := "d22d89e0a0af2d9ea3984c93c3aa216823d1b94fe03478d952257483cf013044", func := "filespace/filespacelaw38.RpcRight", spec := "rpcRight", inPlace := ["internal/abi.NoEscape", "internal/bytealg.MakeNoZero", "internal/bytealg.CountString", "internal/bytealg.IndexByteString", "internal/bytealg.IndexString"], unfollowed := true, recurses := true, named := ["internal/bytealg.MaxLen"], apart := false }
def RpcRightSaid : Prop := rpcRightRow.holds Tryz.pinned (OpenSpec.ofChange rpcRightSpec)

/-- ITS FALSE NEIGHBOUR: 'it returns false'. Refute it at one input. -/
def rpcRightWrong : ChangeSpec := { name := "rpcRight", fn := fun _ => fun
  | [d] => { results := [.lit (.bool false)], args := [d] }
  | _ => none }
def RpcRightWrongFalsely : Prop := rpcRightRow.holds Tryz.pinned (OpenSpec.ofChange rpcRightWrong)

/-- 'filespacelaw38.RpcStarts': WHATEVER THE INPUT: true; the input reads as it did. -/
def rpcStartsSpec : ChangeSpec := { name := "rpcStarts", fn := fun _ => fun
  | [d1, d2] => { results := [.lit (.bool true)], args := [d1, d2] }
  | _ => none }
def rpcStartsRow : OpenClaim := { program := "ytolgkhjkdadhiaagreat", sum := "d22d89e0a0af2d9ea3984c93c3aa216823d1b94fe03478d952257483cf013044", func := "filespace/filespacelaw38.RpcStarts", spec := "rpcStarts", inPlace := ["internal/abi.NoEscape", "internal/bytealg.MakeNoZero", "internal/bytealg.CountString", "internal/bytealg.IndexByteString", "internal/bytealg.IndexString"], unfollowed := true, recurses := true, named := ["internal/bytealg.MaxLen"], apart := false }
def RpcStartsSaid : Prop := rpcStartsRow.holds Tryz.pinned (OpenSpec.ofChange rpcStartsSpec)

/-- ITS FALSE NEIGHBOUR: 'it returns false'. Refute it at one input. -/
def rpcStartsWrong : ChangeSpec := { name := "rpcStarts", fn := fun _ => fun
  | [d1, d2] => { results := [.lit (.bool false)], args := [d1, d2] }
  | _ => none }
def RpcStartsWrongFalsely : Prop := rpcStartsRow.holds Tryz.pinned (OpenSpec.ofChange rpcStartsWrong)

/-- 'filespacelaw38.RpcFlushes': WHATEVER THE INPUT: true; the input reads as it did. -/
def rpcFlushesSpec : ChangeSpec := { name := "rpcFlushes", fn := fun _ => fun
  | [d1, d2] => { results := [.lit (.bool true)], args := [d1, d2] }
  | _ => none }
def rpcFlushesRow : OpenClaim := { program := "ytolgkhjkdadhiaagreat", sum := "d22d89e0a0af2d9ea3984c93c3aa216823d1b94fe03478d952257483cf013044", func := "filespace/filespacelaw38.RpcFlushes", spec := "rpcFlushes", inPlace := ["internal/abi.NoEscape", "internal/bytealg.MakeNoZero", "internal/bytealg.CountString", "internal/bytealg.IndexByteString", "internal/bytealg.IndexString"], unfollowed := true, recurses := true, named := ["internal/bytealg.MaxLen"], apart := false }
def RpcFlushesSaid : Prop := rpcFlushesRow.holds Tryz.pinned (OpenSpec.ofChange rpcFlushesSpec)

/-- ITS FALSE NEIGHBOUR: 'it returns false'. Refute it at one input. -/
def rpcFlushesWrong : ChangeSpec := { name := "rpcFlushes", fn := fun _ => fun
  | [d1, d2] => { results := [.lit (.bool false)], args := [d1, d2] }
  | _ => none }
def RpcFlushesWrongFalsely : Prop := rpcFlushesRow.holds Tryz.pinned (OpenSpec.ofChange rpcFlushesWrong)

/-- 'filespacelaw38.RpcReceives': WHATEVER THE INPUT: true; the input reads as it did. -/
def rpcReceivesSpec : ChangeSpec := { name := "rpcReceives", fn := fun _ => fun
  | [d1, d2] => { results := [.lit (.bool true)], args := [d1, d2] }
  | _ => none }
def rpcReceivesRow : OpenClaim := { program := "ytolgkhjkdadhiaagreat", sum := "d22d89e0a0af2d9ea3984c93c3aa216823d1b94fe03478d952257483cf013044", func := "filespace/filespacelaw38.RpcReceives", spec := "rpcReceives", inPlace := ["internal/abi.NoEscape", "internal/bytealg.MakeNoZero", "internal/bytealg.CountString", "internal/bytealg.IndexByteString", "internal/bytealg.IndexString"], unfollowed := true, recurses := true, named := ["internal/bytealg.MaxLen"], apart := false }
def RpcReceivesSaid : Prop := rpcReceivesRow.holds Tryz.pinned (OpenSpec.ofChange rpcReceivesSpec)

/-- ITS FALSE NEIGHBOUR: 'it returns false'. Refute it at one input. -/
def rpcReceivesWrong : ChangeSpec := { name := "rpcReceives", fn := fun _ => fun
  | [d1, d2] => { results := [.lit (.bool false)], args := [d1, d2] }
  | _ => none }
def RpcReceivesWrongFalsely : Prop := rpcReceivesRow.holds Tryz.pinned (OpenSpec.ofChange rpcReceivesWrong)

/-- 'filespacelaw38.RpcPieces': WHATEVER THE INPUT: true; the input reads as it did. -/
def rpcPiecesSpec : ChangeSpec := { name := "rpcPieces", fn := fun _ => fun
  | [d1, d2, d3] => { results := [.lit (.bool true)], args := [d1, d2, d3] }
  | _ => none }
def rpcPiecesRow : OpenClaim := { program := "ytolgkhjkdadhiaagreat", sum := "d22d89e0a0af2d9ea3984c93c3aa216823d1b94fe03478d952257483cf013044", func := "filespace/filespacelaw38.RpcPieces", spec := "rpcPieces", inPlace := ["internal/abi.NoEscape", "internal/bytealg.MakeNoZero", "internal/bytealg.CountString", "internal/bytealg.IndexByteString", "internal/bytealg.IndexString"], unfollowed := true, recurses := true, named := ["internal/bytealg.MaxLen"], apart := false }
def RpcPiecesSaid : Prop := rpcPiecesRow.holds Tryz.pinned (OpenSpec.ofChange rpcPiecesSpec)

/-- ITS FALSE NEIGHBOUR: 'it returns false'. Refute it at one input. -/
def rpcPiecesWrong : ChangeSpec := { name := "rpcPieces", fn := fun _ => fun
  | [d1, d2, d3] => { results := [.lit (.bool false)], args := [d1, d2, d3] }
  | _ => none }
def RpcPiecesWrongFalsely : Prop := rpcPiecesRow.holds Tryz.pinned (OpenSpec.ofChange rpcPiecesWrong)

/-- 'filespacelaw38.RpcForgets': WHATEVER THE INPUT: true; the input reads as it did. -/
def rpcForgetsSpec : ChangeSpec := { name := "rpcForgets", fn := fun _ => fun
  | [d1, d2, d3] => { results := [.lit (.bool true)], args := [d1, d2, d3] }
  | _ => none }
def rpcForgetsRow : OpenClaim := { program := "ytolgkhjkdadhiaagreat", sum := "d22d89e0a0af2d9ea3984c93c3aa216823d1b94fe03478d952257483cf013044", func := "filespace/filespacelaw38.RpcForgets", spec := "rpcForgets", inPlace := ["internal/abi.NoEscape", "internal/bytealg.MakeNoZero", "internal/bytealg.CountString", "internal/bytealg.IndexByteString", "internal/bytealg.IndexString"], unfollowed := true, recurses := true, named := ["internal/bytealg.MaxLen"], apart := false }
def RpcForgetsSaid : Prop := rpcForgetsRow.holds Tryz.pinned (OpenSpec.ofChange rpcForgetsSpec)

/-- ITS FALSE NEIGHBOUR: 'it returns false'. Refute it at one input. -/
def rpcForgetsWrong : ChangeSpec := { name := "rpcForgets", fn := fun _ => fun
  | [d1, d2, d3] => { results := [.lit (.bool false)], args := [d1, d2, d3] }
  | _ => none }
def RpcForgetsWrongFalsely : Prop := rpcForgetsRow.holds Tryz.pinned (OpenSpec.ofChange rpcForgetsWrong)

/-- 'filespacelaw38.RpcLoses': WHATEVER THE INPUT: true; the input reads as it did. -/
def rpcLosesSpec : ChangeSpec := { name := "rpcLoses", fn := fun _ => fun
  | [d1, d2] => { results := [.lit (.bool true)], args := [d1, d2] }
  | _ => none }
def rpcLosesRow : OpenClaim := { program := "ytolgkhjkdadhiaagreat", sum := "d22d89e0a0af2d9ea3984c93c3aa216823d1b94fe03478d952257483cf013044", func := "filespace/filespacelaw38.RpcLoses", spec := "rpcLoses", inPlace := ["internal/abi.NoEscape", "internal/bytealg.MakeNoZero", "internal/bytealg.CountString", "internal/bytealg.IndexByteString", "internal/bytealg.IndexString", "slices.overlaps[int]"], unfollowed := true, recurses := true, named := ["internal/bytealg.MaxLen"], apart := false }
def RpcLosesSaid : Prop := rpcLosesRow.holds Tryz.pinned (OpenSpec.ofChange rpcLosesSpec)

/-- ITS FALSE NEIGHBOUR: 'it returns false'. Refute it at one input. -/
def rpcLosesWrong : ChangeSpec := { name := "rpcLoses", fn := fun _ => fun
  | [d1, d2] => { results := [.lit (.bool false)], args := [d1, d2] }
  | _ => none }
def RpcLosesWrongFalsely : Prop := rpcLosesRow.holds Tryz.pinned (OpenSpec.ofChange rpcLosesWrong)

/- THE SECOND FORM. 'bulk': how many values and letters a reading holds, each counted each time it is reached (what is shared counts as often as it is met; a slice's spare places count too). A statement '..UptoSaid' is the law's where the arguments, and the package variables that the reading takes, are together of bulk at most 1048576: NARROWER than '..Said'. Prove '..Said' where nothing that the law and all that it calls make is longer than what came in: it says more and counts as full. Else prove '..UptoSaid'. A law counts once. -/
mutual
def uptoBulk {H : Type} : DataW H → Nat
  | .lit (.string bytes) => bytes.length + 1
  | .lit _ => 1
  | .nil => 1
  | .ptr d => uptoBulk d + 1
  | .slice elems spare => uptoBulkAll elems + uptoBulkAll spare + 1
  | .agg parts => uptoBulkAll parts + 1
  | .iface _ d => uptoBulk d + 1
  | .map entries => uptoBulkEntries entries + 1
  | .held _ => 1
def uptoBulkAll {H : Type} : List (DataW H) → Nat
  | [] => 0
  | d :: r => uptoBulk d + uptoBulkAll r
def uptoBulkEntries {H : Type} : List (Lit × DataW H) → Nat
  | [] => 0
  | x :: r => uptoBulkEntry x + uptoBulkEntries r
def uptoBulkEntry {H : Type} : Lit × DataW H → Nat
  | (.string bytes, d) => bytes.length + uptoBulk d + 1
  | (_, d) => uptoBulk d + 1
 end
def uptoSmall : (H : Type) → List (DataW H) → Bool := fun _ ds => decide (uptoBulkAll ds ≤ 1048576)
def OpenSpec.upto (s : _root_.Go.ChangeSpec) : _root_.Go.OpenSpec := { _root_.Go.OpenSpec.ofChange s with cond := some uptoSmall }

/-- 'filespacelaw38.RpcRight', WHERE WHAT IT READS IS OF BULK AT MOST 1048576: true; the input reads as it did. -/
def rpcRightUptoRow : OpenClaim := { program := "ytolgkhjkdadhiaagreat", sum := "d22d89e0a0af2d9ea3984c93c3aa216823d1b94fe03478d952257483cf013044", func := "filespace/filespacelaw38.RpcRight", spec := "rpcRight", inPlace := ["internal/abi.NoEscape", "internal/bytealg.MakeNoZero", "internal/bytealg.CountString", "internal/bytealg.IndexByteString", "internal/bytealg.IndexString"], unfollowed := true, recurses := true, named := ["internal/bytealg.MaxLen"], apart := false, narrowed := true }
def RpcRightUptoSaid : Prop := rpcRightUptoRow.holds Tryz.pinned (OpenSpec.upto rpcRightSpec)

/-- 'filespacelaw38.RpcStarts', WHERE WHAT IT READS IS OF BULK AT MOST 1048576: true; the input reads as it did. -/
def rpcStartsUptoRow : OpenClaim := { program := "ytolgkhjkdadhiaagreat", sum := "d22d89e0a0af2d9ea3984c93c3aa216823d1b94fe03478d952257483cf013044", func := "filespace/filespacelaw38.RpcStarts", spec := "rpcStarts", inPlace := ["internal/abi.NoEscape", "internal/bytealg.MakeNoZero", "internal/bytealg.CountString", "internal/bytealg.IndexByteString", "internal/bytealg.IndexString"], unfollowed := true, recurses := true, named := ["internal/bytealg.MaxLen"], apart := false, narrowed := true }
def RpcStartsUptoSaid : Prop := rpcStartsUptoRow.holds Tryz.pinned (OpenSpec.upto rpcStartsSpec)

/-- 'filespacelaw38.RpcFlushes', WHERE WHAT IT READS IS OF BULK AT MOST 1048576: true; the input reads as it did. -/
def rpcFlushesUptoRow : OpenClaim := { program := "ytolgkhjkdadhiaagreat", sum := "d22d89e0a0af2d9ea3984c93c3aa216823d1b94fe03478d952257483cf013044", func := "filespace/filespacelaw38.RpcFlushes", spec := "rpcFlushes", inPlace := ["internal/abi.NoEscape", "internal/bytealg.MakeNoZero", "internal/bytealg.CountString", "internal/bytealg.IndexByteString", "internal/bytealg.IndexString"], unfollowed := true, recurses := true, named := ["internal/bytealg.MaxLen"], apart := false, narrowed := true }
def RpcFlushesUptoSaid : Prop := rpcFlushesUptoRow.holds Tryz.pinned (OpenSpec.upto rpcFlushesSpec)

/-- 'filespacelaw38.RpcReceives', WHERE WHAT IT READS IS OF BULK AT MOST 1048576: true; the input reads as it did. -/
def rpcReceivesUptoRow : OpenClaim := { program := "ytolgkhjkdadhiaagreat", sum := "d22d89e0a0af2d9ea3984c93c3aa216823d1b94fe03478d952257483cf013044", func := "filespace/filespacelaw38.RpcReceives", spec := "rpcReceives", inPlace := ["internal/abi.NoEscape", "internal/bytealg.MakeNoZero", "internal/bytealg.CountString", "internal/bytealg.IndexByteString", "internal/bytealg.IndexString"], unfollowed := true, recurses := true, named := ["internal/bytealg.MaxLen"], apart := false, narrowed := true }
def RpcReceivesUptoSaid : Prop := rpcReceivesUptoRow.holds Tryz.pinned (OpenSpec.upto rpcReceivesSpec)

/-- 'filespacelaw38.RpcPieces', WHERE WHAT IT READS IS OF BULK AT MOST 1048576: true; the input reads as it did. -/
def rpcPiecesUptoRow : OpenClaim := { program := "ytolgkhjkdadhiaagreat", sum := "d22d89e0a0af2d9ea3984c93c3aa216823d1b94fe03478d952257483cf013044", func := "filespace/filespacelaw38.RpcPieces", spec := "rpcPieces", inPlace := ["internal/abi.NoEscape", "internal/bytealg.MakeNoZero", "internal/bytealg.CountString", "internal/bytealg.IndexByteString", "internal/bytealg.IndexString"], unfollowed := true, recurses := true, named := ["internal/bytealg.MaxLen"], apart := false, narrowed := true }
def RpcPiecesUptoSaid : Prop := rpcPiecesUptoRow.holds Tryz.pinned (OpenSpec.upto rpcPiecesSpec)

/-- 'filespacelaw38.RpcForgets', WHERE WHAT IT READS IS OF BULK AT MOST 1048576: true; the input reads as it did. -/
def rpcForgetsUptoRow : OpenClaim := { program := "ytolgkhjkdadhiaagreat", sum := "d22d89e0a0af2d9ea3984c93c3aa216823d1b94fe03478d952257483cf013044", func := "filespace/filespacelaw38.RpcForgets", spec := "rpcForgets", inPlace := ["internal/abi.NoEscape", "internal/bytealg.MakeNoZero", "internal/bytealg.CountString", "internal/bytealg.IndexByteString", "internal/bytealg.IndexString"], unfollowed := true, recurses := true, named := ["internal/bytealg.MaxLen"], apart := false, narrowed := true }
def RpcForgetsUptoSaid : Prop := rpcForgetsUptoRow.holds Tryz.pinned (OpenSpec.upto rpcForgetsSpec)

/-- 'filespacelaw38.RpcLoses', WHERE WHAT IT READS IS OF BULK AT MOST 1048576: true; the input reads as it did. -/
def rpcLosesUptoRow : OpenClaim := { program := "ytolgkhjkdadhiaagreat", sum := "d22d89e0a0af2d9ea3984c93c3aa216823d1b94fe03478d952257483cf013044", func := "filespace/filespacelaw38.RpcLoses", spec := "rpcLoses", inPlace := ["internal/abi.NoEscape", "internal/bytealg.MakeNoZero", "internal/bytealg.CountString", "internal/bytealg.IndexByteString", "internal/bytealg.IndexString", "slices.overlaps[int]"], unfollowed := true, recurses := true, named := ["internal/bytealg.MaxLen"], apart := false, narrowed := true }
def RpcLosesUptoSaid : Prop := rpcLosesUptoRow.holds Tryz.pinned (OpenSpec.upto rpcLosesSpec)

end Rows
end Go.Proofs.YtolgkhjkdadhiaaGreat
