/-
 Each Go function as a function on plain data: printed by a program of ours (gosh2.py) off the translation.
-/
import Derived.Test.YtboplmpnjepdnaaGreatGo2
namespace Go.Proofs.YtboplmpnjepdnaaGreat
open Go.Rt Go.RowKit

structure api_Qid where
 Type_ : Int
 Vers_ : Int
 Path_ : Int
deriving DecidableEq, Inhabited
structure api_Dir where
 Type_ : Int
 Dev_ : Int
 Qid_ : api_Qid
 Mode_ : Int
 Atime_ : Int
 Mtime_ : Int
 Length_ : Int
 Name_ : Str
 Uid_ : Str
 Gid_ : Str
 Muid_ : Str
deriving DecidableEq, Inhabited
structure api_Msg where
 Kind_ : Int
 Tag_ : Int
 Fid_ : Int
 NewFid_ : Int
 AuthFid_ : Int
 OldTag_ : Int
 Msize_ : Int
 Version_ : Str
 User_ : Str
 Attach_ : Str
 Names_ : List Str
 Qids_ : List api_Qid
 Qid_ : api_Qid
 Iounit_ : Int
 Mode_ : Int
 Perm_ : Int
 Name_ : Str
 Offset_ : Int
 Count_ : Int
 Data_ : Str
 Stat_ : api_Dir
 Err_ : Int
 Lease_ : Int
 Term_ : Int
 Session_ : Str
deriving DecidableEq, Inhabited
structure Arr13_int where
 a0_ : Int
 a1_ : Int
 a2_ : Int
 a3_ : Int
 a4_ : Int
 a5_ : Int
 a6_ : Int
 a7_ : Int
 a8_ : Int
 a9_ : Int
 a10_ : Int
 a11_ : Int
 a12_ : Int
deriving DecidableEq, Inhabited
structure Arr6_string where
 a0_ : Str
 a1_ : Str
 a2_ : Str
 a3_ : Str
 a4_ : Str
 a5_ : Str
deriving DecidableEq, Inhabited
structure stat_number where
 n_ : Int
 width_ : Int
 most_ : Int
deriving DecidableEq, Inhabited
structure wire_writer where
 s_ : Str
 e_ : Int
deriving DecidableEq, Inhabited
structure wire_reader where
 s_ : Str
 at_ : Int
 ok_ : Bool
deriving DecidableEq, Inhabited
structure stat_reader where
 s_ : Str
 at_ : Int
 ok_ : Bool
deriving DecidableEq, Inhabited
structure ref09_Out where
 S_ : Str
 E_ : Int
deriving DecidableEq, Inhabited
structure ref09_In where
 S_ : Str
 Bad_ : Bool
deriving DecidableEq, Inhabited
structure Arr4_string where
 a0_ : Str
 a1_ : Str
 a2_ : Str
 a3_ : Str
deriving DecidableEq, Inhabited
def law09_small_L1 (x0 : api_Msg) (s2 : Int × Int) : Option (Step (Int × Int) Int) :=
 (bif (decide (s2.2 < (x0.Names_.length : Int))) then
 Option.bind (getI x0.Names_ s2.2) fun (y2 : Str) =>
 some (.next ((w64 ((minI s2.1 100000) + (minI (y2.length : Int) 100000))), (w64 (s2.2 + 1))))
 else
 some (.done s2.1))
def law09_small (x0 : api_Msg) : Option Bool :=
 Option.bind (loopF (law09_small_L1 x0) BIG ((w64 ((w64 ((w64 ((w64 ((w64 ((w64 ((w64 ((w64 ((w64 ((x0.Version_.length : Int) + (x0.User_.length : Int))) + (x0.Attach_.length : Int))) + (x0.Name_.length : Int))) + (x0.Session_.length : Int))) + (x0.Data_.length : Int))) + (x0.Stat_.Name_.length : Int))) + (x0.Stat_.Uid_.length : Int))) + (x0.Stat_.Gid_.length : Int))) + (x0.Stat_.Muid_.length : Int))), 0)) fun (o1 : Int) =>
 some ((((decide (o1 ≤ 20000)) && (decide ((x0.Names_.length : Int) ≤ 100))) && (decide ((x0.Qids_.length : Int) ≤ 1000))))
def msg_Name (x0 : Int) : Option Str :=
 (bif ((decide (x0 < 100)) || (decide (x0 > 131))) then
 some ([])
 else
 Option.bind (getI [[84, 86, 101, 114, 115, 105, 111, 110], [82, 86, 101, 114, 115, 105, 111, 110], [84, 65, 117, 116, 104], [82, 65, 117, 116, 104], [84, 65, 116, 116, 97, 99, 104], [82, 65, 116, 116, 97, 99, 104], [], [82, 69, 114, 114, 111, 114], [84, 70, 108, 117, 115, 104], [82, 70, 108, 117, 115, 104], [84, 87, 97, 108, 107], [82, 87, 97, 108, 107], [84, 79, 112, 101, 110], [82, 79, 112, 101, 110], [84, 67, 114, 101, 97, 116, 101], [82, 67, 114, 101, 97, 116, 101], [84, 82, 101, 97, 100], [82, 82, 101, 97, 100], [84, 87, 114, 105, 116, 101], [82, 87, 114, 105, 116, 101], [84, 67, 108, 117, 110, 107], [82, 67, 108, 117, 110, 107], [84, 82, 101, 109, 111, 118, 101], [82, 82, 101, 109, 111, 118, 101], [84, 83, 116, 97, 116], [82, 83, 116, 97, 116], [84, 87, 115, 116, 97, 116], [82, 87, 115, 116, 97, 116], [84, 76, 101, 97, 115, 101], [82, 76, 101, 97, 115, 101], [84, 82, 101, 115, 117, 109, 101], [82, 82, 101, 115, 117, 109, 101]] (w64 (x0 - 100))) fun (y1 : Str) =>
 some (y1))
def msg_tagged (x0 : api_Msg) : Option Bool :=
 Option.bind (
 (bif (x0.Kind_ == 100) then
 some (x0.Kind_ == 100)
 else
 some (x0.Kind_ == 101))
 ) fun (o1 : Bool) =>
 (bif o1 then
 some ((x0.Tag_ == 65535))
 else
 (bif (x0.Kind_ == 107) then
 some (((decide (x0.Tag_ ≥ 0)) && (decide (x0.Tag_ ≤ 65535))))
 else
 some (((decide (x0.Tag_ ≥ 0)) && (decide (x0.Tag_ ≤ 65534))))))
def msg_rest (x0 : api_Msg) (x1 : api_Msg) : Option api_Msg :=
 Option.bind (
 (bif (x0.Kind_ == 116) then
 some (api_Msg.mk x1.Kind_ x1.Tag_ x0.Fid_ x1.NewFid_ x1.AuthFid_ x1.OldTag_ x1.Msize_ x1.Version_ x1.User_ x1.Attach_ x1.Names_ x1.Qids_ x1.Qid_ x1.Iounit_ x1.Mode_ x1.Perm_ x1.Name_ x0.Offset_ x0.Count_ x1.Data_ x1.Stat_ x1.Err_ x1.Lease_ x1.Term_ x1.Session_)
 else
 (bif (x0.Kind_ == 117) then
 some (api_Msg.mk x1.Kind_ x1.Tag_ x1.Fid_ x1.NewFid_ x1.AuthFid_ x1.OldTag_ x1.Msize_ x1.Version_ x1.User_ x1.Attach_ x1.Names_ x1.Qids_ x1.Qid_ x1.Iounit_ x1.Mode_ x1.Perm_ x1.Name_ x1.Offset_ x1.Count_ x0.Data_ x1.Stat_ x1.Err_ x1.Lease_ x1.Term_ x1.Session_)
 else
 (bif (x0.Kind_ == 118) then
 some (api_Msg.mk x1.Kind_ x1.Tag_ x0.Fid_ x1.NewFid_ x1.AuthFid_ x1.OldTag_ x1.Msize_ x1.Version_ x1.User_ x1.Attach_ x1.Names_ x1.Qids_ x1.Qid_ x1.Iounit_ x1.Mode_ x1.Perm_ x1.Name_ x0.Offset_ x1.Count_ x0.Data_ x1.Stat_ x1.Err_ x1.Lease_ x1.Term_ x1.Session_)
 else
 (bif (x0.Kind_ == 119) then
 some (api_Msg.mk x1.Kind_ x1.Tag_ x1.Fid_ x1.NewFid_ x1.AuthFid_ x1.OldTag_ x1.Msize_ x1.Version_ x1.User_ x1.Attach_ x1.Names_ x1.Qids_ x1.Qid_ x1.Iounit_ x1.Mode_ x1.Perm_ x1.Name_ x1.Offset_ x0.Count_ x1.Data_ x1.Stat_ x1.Err_ x1.Lease_ x1.Term_ x1.Session_)
 else
 Option.bind (
 (bif (x0.Kind_ == 120) then
 some (x0.Kind_ == 120)
 else
 (bif (x0.Kind_ == 122) then
 some (x0.Kind_ == 122)
 else
 some (x0.Kind_ == 124)))
 ) fun (o1 : Bool) =>
 (bif o1 then
 some (api_Msg.mk x1.Kind_ x1.Tag_ x0.Fid_ x1.NewFid_ x1.AuthFid_ x1.OldTag_ x1.Msize_ x1.Version_ x1.User_ x1.Attach_ x1.Names_ x1.Qids_ x1.Qid_ x1.Iounit_ x1.Mode_ x1.Perm_ x1.Name_ x1.Offset_ x1.Count_ x1.Data_ x1.Stat_ x1.Err_ x1.Lease_ x1.Term_ x1.Session_)
 else
 (bif (x0.Kind_ == 125) then
 some (api_Msg.mk x1.Kind_ x1.Tag_ x1.Fid_ x1.NewFid_ x1.AuthFid_ x1.OldTag_ x1.Msize_ x1.Version_ x1.User_ x1.Attach_ x1.Names_ x1.Qids_ x1.Qid_ x1.Iounit_ x1.Mode_ x1.Perm_ x1.Name_ x1.Offset_ x1.Count_ x1.Data_ x0.Stat_ x1.Err_ x1.Lease_ x1.Term_ x1.Session_)
 else
 (bif (x0.Kind_ == 126) then
 some (api_Msg.mk x1.Kind_ x1.Tag_ x0.Fid_ x1.NewFid_ x1.AuthFid_ x1.OldTag_ x1.Msize_ x1.Version_ x1.User_ x1.Attach_ x1.Names_ x1.Qids_ x1.Qid_ x1.Iounit_ x1.Mode_ x1.Perm_ x1.Name_ x1.Offset_ x1.Count_ x1.Data_ x0.Stat_ x1.Err_ x1.Lease_ x1.Term_ x1.Session_)
 else
 (bif (x0.Kind_ == 128) then
 some (api_Msg.mk x1.Kind_ x1.Tag_ x0.Fid_ x1.NewFid_ x1.AuthFid_ x1.OldTag_ x1.Msize_ x1.Version_ x1.User_ x1.Attach_ x1.Names_ x1.Qids_ x1.Qid_ x1.Iounit_ x1.Mode_ x1.Perm_ x1.Name_ x1.Offset_ x1.Count_ x1.Data_ x1.Stat_ x1.Err_ x0.Lease_ x0.Term_ x1.Session_)
 else
 (bif (x0.Kind_ == 129) then
 some (api_Msg.mk x1.Kind_ x1.Tag_ x1.Fid_ x1.NewFid_ x1.AuthFid_ x1.OldTag_ x1.Msize_ x1.Version_ x1.User_ x1.Attach_ x1.Names_ x1.Qids_ x0.Qid_ x1.Iounit_ x1.Mode_ x1.Perm_ x1.Name_ x1.Offset_ x1.Count_ x1.Data_ x1.Stat_ x1.Err_ x0.Lease_ x0.Term_ x1.Session_)
 else
 (bif (x0.Kind_ == 130) then
 some (api_Msg.mk x1.Kind_ x1.Tag_ x1.Fid_ x1.NewFid_ x1.AuthFid_ x1.OldTag_ x1.Msize_ x1.Version_ x1.User_ x1.Attach_ x1.Names_ x1.Qids_ x1.Qid_ x1.Iounit_ x1.Mode_ x1.Perm_ x1.Name_ x1.Offset_ x1.Count_ x1.Data_ x1.Stat_ x1.Err_ x1.Lease_ x1.Term_ x0.Session_)
 else
 some x1))))))))))
 ) fun (o2 : api_Msg) =>
 some (o2)
def msg_only (x0 : api_Msg) : Option api_Msg :=
 Option.bind (
 (bif (x0.Kind_ == 100) then
 some (.fall (api_Msg.mk x0.Kind_ x0.Tag_ 0 0 0 0 x0.Msize_ x0.Version_ [] [] [] [] (api_Qid.mk 0 0 0) 0 0 0 [] 0 0 [] (api_Dir.mk 0 0 (api_Qid.mk 0 0 0) 0 0 0 0 [] [] [] []) 0 0 0 []))
 else
 (bif (x0.Kind_ == 101) then
 some (.fall (api_Msg.mk x0.Kind_ x0.Tag_ 0 0 0 0 x0.Msize_ x0.Version_ [] [] [] [] (api_Qid.mk 0 0 0) 0 0 0 [] 0 0 [] (api_Dir.mk 0 0 (api_Qid.mk 0 0 0) 0 0 0 0 [] [] [] []) 0 0 0 x0.Session_))
 else
 (bif (x0.Kind_ == 102) then
 some (.fall (api_Msg.mk x0.Kind_ x0.Tag_ 0 0 x0.AuthFid_ 0 0 [] x0.User_ x0.Attach_ [] [] (api_Qid.mk 0 0 0) 0 0 0 [] 0 0 [] (api_Dir.mk 0 0 (api_Qid.mk 0 0 0) 0 0 0 0 [] [] [] []) 0 0 0 []))
 else
 (bif (x0.Kind_ == 104) then
 some (.fall (api_Msg.mk x0.Kind_ x0.Tag_ x0.Fid_ 0 x0.AuthFid_ 0 0 [] x0.User_ x0.Attach_ [] [] (api_Qid.mk 0 0 0) 0 0 0 [] 0 0 [] (api_Dir.mk 0 0 (api_Qid.mk 0 0 0) 0 0 0 0 [] [] [] []) 0 0 0 []))
 else
 Option.bind (
 (bif (x0.Kind_ == 103) then
 some (x0.Kind_ == 103)
 else
 some (x0.Kind_ == 105))
 ) fun (o1 : Bool) =>
 (bif o1 then
 some (.fall (api_Msg.mk x0.Kind_ x0.Tag_ 0 0 0 0 0 [] [] [] [] [] x0.Qid_ 0 0 0 [] 0 0 [] (api_Dir.mk 0 0 (api_Qid.mk 0 0 0) 0 0 0 0 [] [] [] []) 0 0 0 []))
 else
 (bif (x0.Kind_ == 107) then
 some (.fall (api_Msg.mk x0.Kind_ x0.Tag_ 0 0 0 0 0 [] [] [] [] [] (api_Qid.mk 0 0 0) 0 0 0 [] 0 0 [] (api_Dir.mk 0 0 (api_Qid.mk 0 0 0) 0 0 0 0 [] [] [] []) x0.Err_ 0 0 []))
 else
 (bif (x0.Kind_ == 108) then
 some (.fall (api_Msg.mk x0.Kind_ x0.Tag_ 0 0 0 x0.OldTag_ 0 [] [] [] [] [] (api_Qid.mk 0 0 0) 0 0 0 [] 0 0 [] (api_Dir.mk 0 0 (api_Qid.mk 0 0 0) 0 0 0 0 [] [] [] []) 0 0 0 []))
 else
 (bif (x0.Kind_ == 110) then
 some (.fall (api_Msg.mk x0.Kind_ x0.Tag_ x0.Fid_ x0.NewFid_ 0 0 0 [] [] [] x0.Names_ [] (api_Qid.mk 0 0 0) 0 0 0 [] 0 0 [] (api_Dir.mk 0 0 (api_Qid.mk 0 0 0) 0 0 0 0 [] [] [] []) 0 0 0 []))
 else
 (bif (x0.Kind_ == 111) then
 some (.fall (api_Msg.mk x0.Kind_ x0.Tag_ 0 0 0 0 0 [] [] [] [] x0.Qids_ (api_Qid.mk 0 0 0) 0 0 0 [] 0 0 [] (api_Dir.mk 0 0 (api_Qid.mk 0 0 0) 0 0 0 0 [] [] [] []) 0 0 0 []))
 else
 (bif (x0.Kind_ == 112) then
 some (.fall (api_Msg.mk x0.Kind_ x0.Tag_ x0.Fid_ 0 0 0 0 [] [] [] [] [] (api_Qid.mk 0 0 0) 0 x0.Mode_ 0 [] 0 0 [] (api_Dir.mk 0 0 (api_Qid.mk 0 0 0) 0 0 0 0 [] [] [] []) 0 0 0 []))
 else
 Option.bind (
 (bif (x0.Kind_ == 113) then
 some (x0.Kind_ == 113)
 else
 some (x0.Kind_ == 115))
 ) fun (o2 : Bool) =>
 (bif o2 then
 some (.fall (api_Msg.mk x0.Kind_ x0.Tag_ 0 0 0 0 0 [] [] [] [] [] x0.Qid_ x0.Iounit_ 0 0 [] 0 0 [] (api_Dir.mk 0 0 (api_Qid.mk 0 0 0) 0 0 0 0 [] [] [] []) 0 0 0 []))
 else
 (bif (x0.Kind_ == 114) then
 some (.fall (api_Msg.mk x0.Kind_ x0.Tag_ x0.Fid_ 0 0 0 0 [] [] [] [] [] (api_Qid.mk 0 0 0) 0 x0.Mode_ x0.Perm_ x0.Name_ 0 0 [] (api_Dir.mk 0 0 (api_Qid.mk 0 0 0) 0 0 0 0 [] [] [] []) 0 0 0 []))
 else
 Option.bind (msg_rest x0 (api_Msg.mk x0.Kind_ x0.Tag_ 0 0 0 0 0 [] [] [] [] [] (api_Qid.mk 0 0 0) 0 0 0 [] 0 0 [] (api_Dir.mk 0 0 (api_Qid.mk 0 0 0) 0 0 0 0 [] [] [] []) 0 0 0 [])) fun (y1 : api_Msg) =>
 some (.ret (y1))))))))))))))
 ) fun (wo3 : Out api_Msg api_Msg) => match wo3 with
 | .ret r3 => some r3
 | .fall o3 =>
 some (o3)
def msg_Same_1 (x0 : api_Msg) : Option Arr13_int :=
 some ((Arr13_int.mk x0.Kind_ x0.Tag_ x0.Fid_ x0.NewFid_ x0.AuthFid_ x0.OldTag_ x0.Msize_ x0.Iounit_ x0.Mode_ x0.Perm_ x0.Offset_ x0.Count_ x0.Lease_))
def msg_Same_2 (x0 : api_Msg) : Option Arr6_string :=
 some ((Arr6_string.mk x0.Version_ x0.User_ x0.Attach_ x0.Name_ x0.Data_ x0.Session_))
def slices_Equal_stringstring_L1 (x0 : List Str) (x1 : List Str) (s2 : Int) : Option (Step Int (Out Unit Bool)) :=
 (bif (decide (s2 < (x0.length : Int))) then
 Option.bind (getI x0 s2) fun (y3 : Str) =>
 Option.bind (getI x1 s2) fun (y4 : Str) =>
 (bif (!(y3 == y4)) then
 some (.done (.ret (false)))
 else
 some (.next (w64 (s2 + 1))))
 else
 some (.done (.fall ())))
def slices_Equal_stringstring (x0 : List Str) (x1 : List Str) : Option Bool :=
 (bif ((x0.length : Int) != (x1.length : Int)) then
 some (false)
 else
 Option.bind (loopF (slices_Equal_stringstring_L1 x0 x1) BIG 0) fun (wo1 : Out Unit Bool) => match wo1 with
 | .ret r1 => some r1
 | .fall _ =>
 some (true))
def slices_Equal_apiQidapiQid_L1 (x0 : List api_Qid) (x1 : List api_Qid) (s2 : Int) : Option (Step Int (Out Unit Bool)) :=
 (bif (decide (s2 < (x0.length : Int))) then
 Option.bind (getI x0 s2) fun (y3 : api_Qid) =>
 Option.bind (getI x1 s2) fun (y4 : api_Qid) =>
 (bif (!(decide (y3 = y4))) then
 some (.done (.ret (false)))
 else
 some (.next (w64 (s2 + 1))))
 else
 some (.done (.fall ())))
def slices_Equal_apiQidapiQid (x0 : List api_Qid) (x1 : List api_Qid) : Option Bool :=
 (bif ((x0.length : Int) != (x1.length : Int)) then
 some (false)
 else
 Option.bind (loopF (slices_Equal_apiQidapiQid_L1 x0 x1) BIG 0) fun (wo1 : Out Unit Bool) => match wo1 with
 | .ret r1 => some r1
 | .fall _ =>
 some (true))
def msg_Same (x0 : api_Msg) (x1 : api_Msg) : Option Bool :=
 Option.bind (msg_Same_1 x0) fun (y1 : Arr13_int) =>
 Option.bind (msg_Same_1 x1) fun (y2 : Arr13_int) =>
 Option.bind (bif (decide (y1 = y2)) then 
 Option.bind (msg_Same_2 x0) fun (y3 : Arr6_string) =>
 Option.bind (msg_Same_2 x1) fun (y4 : Arr6_string) =>
 some (decide (y3 = y4))
 else some false) fun (y5 : Bool) =>
 Option.bind (bif ((((y5 && (x0.Term_ == x1.Term_)) && (x0.Err_ == x1.Err_)) && (decide (x0.Qid_ = x1.Qid_))) && (decide (x0.Stat_ = x1.Stat_))) then 
 Option.bind (slices_Equal_stringstring x0.Names_ x1.Names_) fun (y6 : Bool) =>
 some y6
 else some false) fun (y7 : Bool) =>
 Option.bind (bif y7 then 
 Option.bind (slices_Equal_apiQidapiQid x0.Qids_ x1.Qids_) fun (y8 : Bool) =>
 some y8
 else some false) fun (y9 : Bool) =>
 some (y9)
def msg_in (x0 : Int) (x1 : Int) (x2 : Int) : Option Int :=
 (bif ((decide (x0 < x1)) || (decide (x0 > x2))) then
 some (5)
 else
 some (0))
def msg_short (x0 : Str) (x1 : Int) : Option Int :=
 (bif (decide ((x0.length : Int) > x1)) then
 some (4)
 else
 some (0))
def msg_first_L1 (x0 : List Int) (s2 : Int) : Option (Step Int (Out Unit Int)) :=
 (bif (decide (s2 < (x0.length : Int))) then
 Option.bind (getI x0 s2) fun (y2 : Int) =>
 (bif (y2 != 0) then
 some (.done (.ret (y2)))
 else
 some (.next (w64 (s2 + 1))))
 else
 some (.done (.fall ())))
def msg_first (x0 : List Int) : Option Int :=
 Option.bind (loopF (msg_first_L1 x0) BIG 0) fun (wo1 : Out Unit Int) => match wo1 with
 | .ret r1 => some r1
 | .fall _ =>
 some (0)
def msg_fid (x0 : Int) : Option Int :=
 Option.bind (msg_in x0 0 4294967294) fun (y1 : Int) =>
 some (y1)
def msg_qid (x0 : api_Qid) : Option Int :=
 (bif ((decide (x0.Type_ < 0)) || ((andNotI .i64 x0.Type_ 232) != 0)) then
 some (5)
 else
 Option.bind (msg_in x0.Vers_ 0 2147483647) fun (y1 : Int) =>
 Option.bind (msg_in x0.Path_ 0 1099511627776) fun (y2 : Int) =>
 Option.bind (msg_first [y1, y2]) fun (y3 : Int) =>
 some (y3))
def path_Valid_L1 (x0 : Str) (s2 : Int) : Option (Step Int (Out Unit Bool)) :=
 (bif (decide (s2 < (x0.length : Int))) then
 Option.bind (byteI x0 s2) fun (y6 : Int) =>
 Option.bind (bif (decide (y6 < 33)) then some true else 
 Option.bind (byteI x0 s2) fun (y7 : Int) =>
 some (decide (y7 > 126))
 ) fun (y8 : Bool) =>
 Option.bind (bif y8 then some true else 
 Option.bind (byteI x0 s2) fun (y9 : Int) =>
 some (y9 == 47)
 ) fun (y10 : Bool) =>
 (bif y10 then
 some (.done (.ret (false)))
 else
 some (.next (w64 (s2 + 1))))
 else
 some (.done (.fall ())))
def path_Valid (x0 : Str) : Option Bool :=
 (bif ((((x0 == []) || (x0 == [46])) || (x0 == [46, 46])) || (decide ((x0.length : Int) > 64))) then
 some (false)
 else
 Option.bind (loopF (path_Valid_L1 x0) BIG 0) fun (wo1 : Out Unit Bool) => match wo1 with
 | .ret r1 => some r1
 | .fall _ =>
 some (true))
def msg_names_L1 (x0 : List Str) (s2 : Int) : Option (Step Int (Out Unit Int)) :=
 (bif (decide (s2 < (x0.length : Int))) then
 Option.bind (getI x0 s2) fun (y4 : Str) =>
 Option.bind (bif (!(y4 == [46, 46])) then 
 Option.bind (path_Valid y4) fun (y5 : Bool) =>
 some (!y5)
 else some false) fun (y6 : Bool) =>
 (bif y6 then
 some (.done (.ret (6)))
 else
 some (.next (w64 (s2 + 1))))
 else
 some (.done (.fall ())))
def msg_names (x0 : List Str) : Option Int :=
 (bif (decide ((x0.length : Int) > 16)) then
 some (4)
 else
 Option.bind (loopF (msg_names_L1 x0) BIG 0) fun (wo1 : Out Unit Int) => match wo1 with
 | .ret r1 => some r1
 | .fall _ =>
 some (0))
def msg_qids_L1 (x0 : List api_Qid) (s2 : Int) : Option (Step Int (Out Unit Int)) :=
 (bif (decide (s2 < (x0.length : Int))) then
 Option.bind (getI x0 s2) fun (y3 : api_Qid) =>
 Option.bind (msg_qid y3) fun (y4 : Int) =>
 (bif (y4 != 0) then
 some (.done (.ret (y4)))
 else
 some (.next (w64 (s2 + 1))))
 else
 some (.done (.fall ())))
def msg_qids (x0 : List api_Qid) : Option Int :=
 (bif (decide ((x0.length : Int) > 16)) then
 some (4)
 else
 Option.bind (loopF (msg_qids_L1 x0) BIG 0) fun (wo1 : Out Unit Int) => match wo1 with
 | .ret r1 => some r1
 | .fall _ =>
 some (0))
def msg_named (x0 : Str) : Option Int :=
 Option.bind (path_Valid x0) fun (y1 : Bool) =>
 (bif (!y1) then
 some (6)
 else
 some (0))
def stat_numbers (x0 : api_Dir) : Option (List stat_number) :=
 some ([(stat_number.mk x0.Type_ 2 65534), (stat_number.mk x0.Dev_ 4 4294967294), (stat_number.mk x0.Qid_.Type_ 1 232), (stat_number.mk x0.Qid_.Vers_ 4 2147483647), (stat_number.mk x0.Qid_.Path_ 8 1099511627776), (stat_number.mk x0.Mode_ 4 3892314623), (stat_number.mk x0.Atime_ 8 1099511627776), (stat_number.mk x0.Mtime_ 8 1099511627776), (stat_number.mk x0.Length_ 8 9007199254740991)])
def stat_within (x0 : Int) (x1 : Int) : Option Bool :=
 some (((x0 == (-1)) || ((decide (x0 ≥ 0)) && ((andNotI .i64 x0 x1) == 0))))
def stat_Check_L1 (y1 : (List stat_number)) (s2 : Int × (List stat_number)) : Option (Step (Int × (List stat_number)) (Out Unit Int)) :=
 (bif (decide (s2.1 < (y1.length : Int))) then
 Option.bind (getI s2.2 s2.1) fun (y3 : stat_number) =>
 (bif ((decide (y3.n_ < (-1))) || (decide (y3.n_ > y3.most_))) then
 some (.done (.ret (5)))
 else
 some (.next ((w64 (s2.1 + 1)), s2.2)))
 else
 some (.done (.fall ())))
def stat_Check (x0 : api_Dir) : Option Int :=
 Option.bind (stat_numbers x0) fun (y1 : (List stat_number)) =>
 Option.bind (loopF (stat_Check_L1 y1) BIG (0, y1)) fun (wo1 : Out Unit Int) => match wo1 with
 | .ret r1 => some r1
 | .fall _ =>
 Option.bind (stat_within x0.Qid_.Type_ 232) fun (y4 : Bool) =>
 Option.bind (bif (!y4) then some true else 
 Option.bind (stat_within x0.Mode_ 3892314623) fun (y5 : Bool) =>
 some (!y5)
 ) fun (y6 : Bool) =>
 (bif y6 then
 some (5)
 else
 Option.bind (bif ((!(x0.Name_ == [])) && (!(x0.Name_ == [47]))) then 
 Option.bind (path_Valid x0.Name_) fun (y7 : Bool) =>
 some (!y7)
 else some false) fun (y8 : Bool) =>
 (bif (y8 || (decide ((maxI (maxI (x0.Uid_.length : Int) (x0.Gid_.length : Int)) (x0.Muid_.length : Int)) > 64))) then
 some (6)
 else
 some (0)))
def msg_fields (x0 : api_Msg) : Option Int :=
 Option.bind (
 (bif (x0.Kind_ == 100) then
 some (x0.Kind_ == 100)
 else
 some (x0.Kind_ == 101))
 ) fun (o1 : Bool) =>
 (bif o1 then
 Option.bind (msg_in x0.Msize_ 0 4294967295) fun (y1 : Int) =>
 Option.bind (msg_short x0.Version_ 64) fun (y2 : Int) =>
 Option.bind (msg_short x0.Session_ 64) fun (y3 : Int) =>
 Option.bind (msg_first [y1, y2, y3]) fun (y4 : Int) =>
 some (y4)
 else
 (bif (x0.Kind_ == 102) then
 Option.bind (msg_fid x0.AuthFid_) fun (y5 : Int) =>
 Option.bind (msg_short x0.User_ 32) fun (y6 : Int) =>
 Option.bind (msg_short x0.Attach_ 1024) fun (y7 : Int) =>
 Option.bind (msg_first [y5, y6, y7]) fun (y8 : Int) =>
 some (y8)
 else
 (bif (x0.Kind_ == 104) then
 Option.bind (msg_fid x0.Fid_) fun (y9 : Int) =>
 Option.bind (msg_in x0.AuthFid_ 0 4294967295) fun (y10 : Int) =>
 Option.bind (msg_short x0.User_ 32) fun (y11 : Int) =>
 Option.bind (msg_short x0.Attach_ 1024) fun (y12 : Int) =>
 Option.bind (msg_first [y9, y10, y11, y12]) fun (y13 : Int) =>
 some (y13)
 else
 Option.bind (
 (bif (x0.Kind_ == 103) then
 some (x0.Kind_ == 103)
 else
 (bif (x0.Kind_ == 105) then
 some (x0.Kind_ == 105)
 else
 (bif (x0.Kind_ == 113) then
 some (x0.Kind_ == 113)
 else
 some (x0.Kind_ == 115))))
 ) fun (o2 : Bool) =>
 (bif o2 then
 Option.bind (msg_qid x0.Qid_) fun (y14 : Int) =>
 Option.bind (msg_in x0.Iounit_ 0 8192) fun (y15 : Int) =>
 Option.bind (msg_first [y14, y15]) fun (y16 : Int) =>
 some (y16)
 else
 (bif (x0.Kind_ == 107) then
 Option.bind (msg_in x0.Err_ 1 59) fun (y17 : Int) =>
 some (y17)
 else
 (bif (x0.Kind_ == 108) then
 Option.bind (msg_in x0.OldTag_ 0 65534) fun (y18 : Int) =>
 some (y18)
 else
 (bif (x0.Kind_ == 110) then
 Option.bind (msg_fid x0.Fid_) fun (y19 : Int) =>
 Option.bind (msg_fid x0.NewFid_) fun (y20 : Int) =>
 Option.bind (msg_names x0.Names_) fun (y21 : Int) =>
 Option.bind (msg_first [y19, y20, y21]) fun (y22 : Int) =>
 some (y22)
 else
 (bif (x0.Kind_ == 111) then
 Option.bind (msg_qids x0.Qids_) fun (y23 : Int) =>
 some (y23)
 else
 (bif (x0.Kind_ == 112) then
 Option.bind (msg_fid x0.Fid_) fun (y24 : Int) =>
 Option.bind (msg_in x0.Mode_ 0 255) fun (y25 : Int) =>
 Option.bind (msg_first [y24, y25]) fun (y26 : Int) =>
 some (y26)
 else
 (bif (x0.Kind_ == 114) then
 Option.bind (msg_fid x0.Fid_) fun (y27 : Int) =>
 Option.bind (msg_named x0.Name_) fun (y28 : Int) =>
 Option.bind (msg_in x0.Perm_ 0 4294967295) fun (y29 : Int) =>
 Option.bind (msg_in x0.Mode_ 0 255) fun (y30 : Int) =>
 Option.bind (msg_first [y27, y28, y29, y30]) fun (y31 : Int) =>
 some (y31)
 else
 Option.bind (
 (bif (x0.Kind_ == 117) then
 some (x0.Kind_ == 117)
 else
 (bif (x0.Kind_ == 119) then
 some (x0.Kind_ == 119)
 else
 (bif (x0.Kind_ == 116) then
 some (x0.Kind_ == 116)
 else
 some (x0.Kind_ == 118))))
 ) fun (o3 : Bool) =>
 (bif o3 then
 Option.bind (msg_fid x0.Fid_) fun (y32 : Int) =>
 Option.bind (msg_in x0.Offset_ 0 9007199254740991) fun (y33 : Int) =>
 Option.bind (msg_in x0.Count_ 0 8192) fun (y34 : Int) =>
 Option.bind (msg_short x0.Data_ 8168) fun (y35 : Int) =>
 Option.bind (msg_first [y32, y33, y34, y35]) fun (y36 : Int) =>
 some (y36)
 else
 Option.bind (
 (bif (x0.Kind_ == 125) then
 some (x0.Kind_ == 125)
 else
 some (x0.Kind_ == 126))
 ) fun (o4 : Bool) =>
 (bif o4 then
 Option.bind (msg_fid x0.Fid_) fun (y37 : Int) =>
 Option.bind (stat_Check x0.Stat_) fun (y38 : Int) =>
 Option.bind (msg_first [y37, y38]) fun (y39 : Int) =>
 some (y39)
 else
 Option.bind (
 (bif (x0.Kind_ == 128) then
 some (x0.Kind_ == 128)
 else
 some (x0.Kind_ == 129))
 ) fun (o5 : Bool) =>
 (bif o5 then
 Option.bind (msg_fid x0.Fid_) fun (y40 : Int) =>
 Option.bind (msg_qid x0.Qid_) fun (y41 : Int) =>
 Option.bind (msg_in x0.Lease_ 0 2) fun (y42 : Int) =>
 Option.bind (msg_in x0.Term_ 0 1048576) fun (y43 : Int) =>
 Option.bind (msg_first [y40, y41, y42, y43]) fun (y44 : Int) =>
 some (y44)
 else
 (bif (x0.Kind_ == 130) then
 Option.bind (msg_short x0.Session_ 64) fun (y45 : Int) =>
 some (y45)
 else
 Option.bind (msg_fid x0.Fid_) fun (y46 : Int) =>
 some (y46)))))))))))))))
def msg_Check (x0 : api_Msg) : Option Int :=
 Option.bind (msg_Name x0.Kind_) fun (y1 : Str) =>
 (bif (y1 == []) then
 some (2)
 else
 Option.bind (msg_tagged x0) fun (y2 : Bool) =>
 (bif (!y2) then
 some (5)
 else
 Option.bind (msg_only x0) fun (y3 : api_Msg) =>
 Option.bind (msg_Same y3 x0) fun (y4 : Bool) =>
 (bif (!y4) then
 some (2)
 else
 Option.bind (msg_fields x0) fun (y5 : Int) =>
 some (y5))))
def octet_Put_L1 (y4 : List Int) (x0 : Int) (s2 : Int × (List Int)) : Option (Step (Int × (List Int)) (List Int)) :=
 (bif (decide (s2.1 < (y4.length : Int))) then
 Option.bind (shrI .i64 x0 (w64 (8 * s2.1))) fun (y7 : Int) =>
 Option.bind (getI s2.2 s2.1) fun (_ : Int) =>
 some (.next ((w64 (s2.1 + 1)), (s2.2.set s2.1.toNat (IntKind.u8.wrap y7))))
 else
 some (.done s2.2))
def octet_Put (x0 : Int) (x1 : Int) : Option (Str × Int) :=
 (bif ((decide (x1 < 1)) || (decide (x1 > 8))) then
 some (([], 1))
 else
 Option.bind (bif (decide (x0 < 0)) then some true else 
 Option.bind (bif (decide (x1 < 8)) then 
 Option.bind (shrI .i64 x0 (w64 (8 * x1))) fun (y1 : Int) =>
 some (decide (y1 > 0))
 else some false) fun (y2 : Bool) =>
 some y2
 ) fun (y3 : Bool) =>
 (bif y3 then
 some (([], 5))
 else
 Option.bind (makeI 1 (0 : Int) x1) fun (y4 : List Int) =>
 Option.bind (loopF (octet_Put_L1 y4 x0) BIG (0, y4)) fun (o1 : (List Int)) =>
 some (((bytesS o1), 0))))
def wire_writer_add (x0 : wire_writer) (x1 : Str) (x2 : Int) : Option wire_writer :=
 (bif (x0.e_ == 0) then
 Option.bind (cat x0.s_ x1) fun (y1 : Str) =>
 some (wire_writer.mk y1 x2)
 else
 some x0)
def wire_writer_number (x0 : wire_writer) (x1 : Int) (x2 : Int) : Option wire_writer :=
 Option.bind (octet_Put x1 x2) fun (y1 : Str × Int) =>
 Option.bind (wire_writer_add x0 y1.1 y1.2) fun (y2 : wire_writer) =>
 some y2
def wire_layout (x0 : Int) : Option Str :=
 (bif (x0 == 100) then
 some ([109, 118])
 else
 (bif (x0 == 101) then
 some ([109, 118, 115])
 else
 (bif (x0 == 102) then
 some ([97, 117, 120])
 else
 Option.bind (
 (bif (x0 == 103) then
 some (x0 == 103)
 else
 some (x0 == 105))
 ) fun (o1 : Bool) =>
 (bif o1 then
 some ([113])
 else
 (bif (x0 == 104) then
 some ([102, 97, 117, 120])
 else
 (bif (x0 == 107) then
 some ([101])
 else
 (bif (x0 == 108) then
 some ([111])
 else
 (bif (x0 == 110) then
 some ([102, 110, 119])
 else
 (bif (x0 == 111) then
 some ([87])
 else
 (bif (x0 == 112) then
 some ([102, 77])
 else
 Option.bind (
 (bif (x0 == 113) then
 some (x0 == 113)
 else
 some (x0 == 115))
 ) fun (o2 : Bool) =>
 (bif o2 then
 some ([113, 105])
 else
 (bif (x0 == 114) then
 some ([102, 78, 112, 77])
 else
 (bif (x0 == 116) then
 some ([102, 79, 99])
 else
 (bif (x0 == 117) then
 some ([100])
 else
 (bif (x0 == 118) then
 some ([102, 79, 100])
 else
 (bif (x0 == 119) then
 some ([99])
 else
 Option.bind (
 (bif (x0 == 120) then
 some (x0 == 120)
 else
 (bif (x0 == 122) then
 some (x0 == 122)
 else
 some (x0 == 124)))
 ) fun (o3 : Bool) =>
 (bif o3 then
 some ([102])
 else
 (bif (x0 == 125) then
 some ([83])
 else
 (bif (x0 == 126) then
 some ([102, 83])
 else
 (bif (x0 == 128) then
 some ([102, 108, 116])
 else
 (bif (x0 == 129) then
 some ([113, 108, 116])
 else
 (bif (x0 == 130) then
 some ([115])
 else
 some ([])))))))))))))))))))))))
def octet_PutText (x0 : Str) : Option (Str × Int) :=
 (bif (decide ((x0.length : Int) > 65535)) then
 some (([], 4))
 else
 Option.bind (octet_Put (x0.length : Int) 2) fun (y1 : Str × Int) =>
 Option.bind (cat y1.1 x0) fun (y2 : Str) =>
 some ((y2, y1.2)))
def wire_writer_text (x0 : wire_writer) (x1 : Str) : Option wire_writer :=
 Option.bind (octet_PutText x1) fun (y1 : Str × Int) =>
 Option.bind (wire_writer_add x0 y1.1 y1.2) fun (y2 : wire_writer) =>
 some y2
def wire_writer_qid (x0 : wire_writer) (x1 : api_Qid) : Option wire_writer :=
 Option.bind (wire_writer_number x0 x1.Type_ 1) fun (y1 : wire_writer) =>
 Option.bind (wire_writer_number y1 x1.Vers_ 4) fun (y2 : wire_writer) =>
 Option.bind (wire_writer_number y2 x1.Path_ 8) fun (y3 : wire_writer) =>
 some y3
def fault_low (x0 : Int) : Option Str :=
 (bif (x0 == 1) then
 some ([105, 110, 118, 97, 108, 105, 100, 32, 97, 114, 103, 117, 109, 101, 110, 116])
 else
 (bif (x0 == 2) then
 some ([109, 97, 108, 102, 111, 114, 109, 101, 100, 32, 100, 97, 116, 97])
 else
 (bif (x0 == 3) then
 some ([100, 97, 116, 97, 32, 116, 111, 111, 32, 115, 104, 111, 114, 116])
 else
 (bif (x0 == 4) then
 some ([100, 97, 116, 97, 32, 116, 111, 111, 32, 108, 111, 110, 103])
 else
 (bif (x0 == 5) then
 some ([110, 117, 109, 98, 101, 114, 32, 111, 117, 116, 32, 111, 102, 32, 114, 97, 110, 103, 101])
 else
 (bif (x0 == 6) then
 some ([105, 110, 118, 97, 108, 105, 100, 32, 110, 97, 109, 101])
 else
 (bif (x0 == 7) then
 some ([102, 105, 108, 101, 32, 97, 108, 114, 101, 97, 100, 121, 32, 101, 120, 105, 115, 116, 115])
 else
 (bif (x0 == 8) then
 some ([102, 105, 108, 101, 32, 100, 111, 101, 115, 32, 110, 111, 116, 32, 101, 120, 105, 115, 116])
 else
 (bif (x0 == 9) then
 some ([110, 111, 116, 32, 97, 32, 100, 105, 114, 101, 99, 116, 111, 114, 121])
 else
 (bif (x0 == 10) then
 some ([102, 105, 108, 101, 32, 105, 115, 32, 97, 32, 100, 105, 114, 101, 99, 116, 111, 114, 121])
 else
 (bif (x0 == 11) then
 some ([112, 101, 114, 109, 105, 115, 115, 105, 111, 110, 32, 100, 101, 110, 105, 101, 100])
 else
 (bif (x0 == 12) then
 some ([105, 110, 118, 97, 108, 105, 100, 32, 111, 112, 101, 110, 32, 109, 111, 100, 101])
 else
 (bif (x0 == 13) then
 some ([117, 110, 107, 110, 111, 119, 110, 32, 102, 105, 100])
 else
 (bif (x0 == 14) then
 some ([102, 105, 100, 32, 105, 110, 32, 117, 115, 101])
 else
 (bif (x0 == 15) then
 some ([102, 105, 108, 101, 32, 105, 115, 32, 111, 112, 101, 110])
 else
 (bif (x0 == 16) then
 some ([102, 105, 108, 101, 32, 105, 115, 32, 110, 111, 116, 32, 111, 112, 101, 110])
 else
 (bif (x0 == 17) then
 some ([116, 97, 103, 32, 105, 110, 32, 117, 115, 101])
 else
 (bif (x0 == 18) then
 some ([110, 111, 32, 118, 101, 114, 115, 105, 111, 110, 32, 110, 101, 103, 111, 116, 105, 97, 116, 101, 100])
 else
 (bif (x0 == 19) then
 some ([105, 110, 118, 97, 108, 105, 100, 32, 109, 101, 115, 115, 97, 103, 101, 32, 115, 105, 122, 101])
 else
 (bif (x0 == 20) then
 some ([105, 110, 118, 97, 108, 105, 100, 32, 111, 102, 102, 115, 101, 116])
 else
 (bif (x0 == 21) then
 some ([113, 117, 111, 116, 97, 32, 101, 120, 99, 101, 101, 100, 101, 100])
 else
 (bif (x0 == 22) then
 some ([108, 105, 109, 105, 116, 32, 114, 101, 97, 99, 104, 101, 100])
 else
 (bif (x0 == 23) then
 some ([100, 105, 114, 101, 99, 116, 111, 114, 121, 32, 105, 115, 32, 110, 111, 116, 32, 101, 109, 112, 116, 121])
 else
 (bif (x0 == 24) then
 some ([101, 120, 99, 108, 117, 115, 105, 118, 101, 32, 117, 115, 101, 32, 102, 105, 108, 101, 32, 105, 115, 32, 111, 112, 101, 110])
 else
 some ([])))))))))))))))))))))))))
def fault_high (x0 : Int) : Option Str :=
 (bif (x0 == 25) then
 some ([117, 110, 107, 110, 111, 119, 110, 32, 117, 115, 101, 114])
 else
 (bif (x0 == 26) then
 some ([110, 111, 116, 32, 97, 32, 109, 101, 109, 98, 101, 114, 32, 111, 102, 32, 116, 104, 101, 32, 103, 114, 111, 117, 112])
 else
 (bif (x0 == 27) then
 some ([97, 116, 116, 114, 105, 98, 117, 116, 101, 115, 32, 99, 97, 110, 110, 111, 116, 32, 98, 101, 32, 99, 104, 97, 110, 103, 101, 100])
 else
 (bif (x0 == 28) then
 some ([97, 117, 116, 104, 101, 110, 116, 105, 99, 97, 116, 105, 111, 110, 32, 102, 97, 105, 108, 101, 100])
 else
 (bif (x0 == 29) then
 some ([97, 117, 116, 104, 101, 110, 116, 105, 99, 97, 116, 105, 111, 110, 32, 105, 115, 32, 110, 111, 116, 32, 114, 101, 113, 117, 105, 114, 101, 100])
 else
 (bif (x0 == 30) then
 some ([99, 111, 110, 110, 101, 99, 116, 105, 111, 110, 32, 105, 115, 32, 100, 111, 119, 110])
 else
 (bif (x0 == 31) then
 some ([115, 101, 115, 115, 105, 111, 110, 32, 100, 111, 101, 115, 32, 110, 111, 116, 32, 101, 120, 105, 115, 116])
 else
 (bif (x0 == 32) then
 some ([108, 101, 97, 115, 101, 32, 100, 111, 101, 115, 32, 110, 111, 116, 32, 101, 120, 105, 115, 116])
 else
 (bif (x0 == 33) then
 some ([102, 105, 108, 101, 32, 115, 121, 115, 116, 101, 109, 32, 105, 115, 32, 114, 101, 97, 100, 32, 111, 110, 108, 121])
 else
 (bif (x0 == 34) then
 some ([98, 108, 111, 99, 107, 32, 105, 115, 32, 99, 111, 114, 114, 117, 112, 116])
 else
 (bif (x0 == 35) then
 some ([110, 111, 32, 98, 108, 111, 99, 107, 32, 119, 105, 116, 104, 32, 116, 104, 105, 115, 32, 115, 99, 111, 114, 101])
 else
 (bif (x0 == 36) then
 some ([105, 110, 118, 97, 108, 105, 100, 32, 100, 105, 97, 108, 32, 115, 116, 114, 105, 110, 103])
 else
 (bif (x0 == 37) then
 some ([117, 110, 107, 110, 111, 119, 110, 32, 110, 101, 116, 119, 111, 114, 107])
 else
 (bif (x0 == 38) then
 some ([117, 110, 107, 110, 111, 119, 110, 32, 104, 111, 115, 116])
 else
 (bif (x0 == 39) then
 some ([117, 110, 107, 110, 111, 119, 110, 32, 115, 101, 114, 118, 105, 99, 101])
 else
 (bif (x0 == 40) then
 some ([99, 111, 110, 110, 101, 99, 116, 105, 111, 110, 32, 114, 101, 102, 117, 115, 101, 100])
 else
 (bif (x0 == 41) then
 some ([97, 100, 100, 114, 101, 115, 115, 32, 105, 110, 32, 117, 115, 101])
 else
 (bif (x0 == 42) then
 some ([112, 114, 111, 99, 101, 115, 115, 32, 100, 111, 101, 115, 32, 110, 111, 116, 32, 101, 120, 105, 115, 116])
 else
 (bif (x0 == 43) then
 some ([110, 111, 116, 32, 112, 111, 115, 115, 105, 98, 108, 101, 32, 105, 110, 32, 116, 104, 105, 115, 32, 115, 116, 97, 116, 101])
 else
 (bif (x0 == 44) then
 some ([110, 111, 116, 32, 97, 110, 32, 111, 112, 101, 110, 32, 102, 105, 108, 101, 32, 100, 101, 115, 99, 114, 105, 112, 116, 111, 114])
 else
 (bif (x0 == 45) then
 some ([110, 111, 116, 104, 105, 110, 103, 32, 105, 115, 32, 109, 111, 117, 110, 116, 101, 100, 32, 116, 104, 101, 114, 101])
 else
 (bif (x0 == 46) then
 some ([99, 114, 101, 97, 116, 105, 111, 110, 32, 105, 115, 32, 110, 111, 116, 32, 112, 101, 114, 109, 105, 116, 116, 101, 100])
 else
 (bif (x0 == 47) then
 some ([115, 121, 110, 116, 97, 120, 32, 101, 114, 114, 111, 114])
 else
 (bif (x0 == 48) then
 some ([109, 105, 115, 115, 105, 110, 103, 32, 113, 117, 111, 116, 101])
 else
 (bif (x0 == 49) then
 some ([109, 97, 108, 102, 111, 114, 109, 101, 100, 32, 114, 101, 103, 117, 108, 97, 114, 32, 101, 120, 112, 114, 101, 115, 115, 105, 111, 110])
 else
 (bif (x0 == 50) then
 some ([109, 97, 108, 102, 111, 114, 109, 101, 100, 32, 114, 117, 108, 101])
 else
 (bif (x0 == 51) then
 some ([117, 110, 107, 110, 111, 119, 110, 32, 112, 111, 114, 116])
 else
 (bif (x0 == 52) then
 some ([110, 111, 32, 107, 101, 121, 32, 109, 97, 116, 99, 104, 101, 115])
 else
 (bif (x0 == 53) then
 some ([112, 114, 111, 116, 111, 99, 111, 108, 32, 105, 115, 32, 111, 117, 116, 32, 111, 102, 32, 112, 104, 97, 115, 101])
 else
 (bif (x0 == 54) then
 some ([117, 110, 107, 110, 111, 119, 110, 32, 99, 111, 110, 116, 114, 111, 108, 32, 114, 101, 113, 117, 101, 115, 116])
 else
 (bif (x0 == 55) then
 some ([111, 116, 104, 101, 114, 32, 101, 110, 100, 32, 105, 115, 32, 99, 108, 111, 115, 101, 100])
 else
 (bif (x0 == 56) then
 some ([114, 101, 113, 117, 101, 115, 116, 32, 119, 97, 115, 32, 102, 108, 117, 115, 104, 101, 100])
 else
 (bif (x0 == 57) then
 some ([115, 116, 101, 112, 32, 108, 105, 109, 105, 116, 32, 114, 101, 97, 99, 104, 101, 100])
 else
 (bif (x0 == 58) then
 some ([117, 110, 107, 110, 111, 119, 110, 32, 99, 111, 109, 109, 97, 110, 100])
 else
 (bif (x0 == 59) then
 some ([99, 111, 109, 109, 97, 110, 100, 32, 102, 97, 105, 108, 101, 100])
 else
 some ([]))))))))))))))))))))))))))))))))))))
def fault_Text (x0 : Int) : Option Str :=
 (bif ((decide (x0 > 0)) && (decide (x0 ≤ 24))) then
 Option.bind (fault_low x0) fun (y1 : Str) =>
 some (y1)
 else
 Option.bind (fault_high x0) fun (y2 : Str) =>
 some (y2))
def wire_writer_names_L1 (x1 : List Str) (s2 : Int × wire_writer) : Option (Step (Int × wire_writer) wire_writer) :=
 (bif (decide (s2.1 < (x1.length : Int))) then
 Option.bind (getI x1 s2.1) fun (y4 : Str) =>
 Option.bind (wire_writer_text s2.2 y4) fun (y5 : wire_writer) =>
 some (.next ((w64 (s2.1 + 1)), y5))
 else
 some (.done s2.2))
def wire_writer_names (x0 : wire_writer) (x1 : List Str) : Option wire_writer :=
 Option.bind (wire_writer_number x0 (x1.length : Int) 2) fun (y1 : wire_writer) =>
 Option.bind (loopF (wire_writer_names_L1 x1) BIG (0, y1)) fun (o1 : wire_writer) =>
 some o1
def wire_writer_qids_L1 (x1 : List api_Qid) (s2 : Int × wire_writer) : Option (Step (Int × wire_writer) wire_writer) :=
 (bif (decide (s2.1 < (x1.length : Int))) then
 Option.bind (getI x1 s2.1) fun (y4 : api_Qid) =>
 Option.bind (wire_writer_qid s2.2 y4) fun (y5 : wire_writer) =>
 some (.next ((w64 (s2.1 + 1)), y5))
 else
 some (.done s2.2))
def wire_writer_qids (x0 : wire_writer) (x1 : List api_Qid) : Option wire_writer :=
 Option.bind (wire_writer_number x0 (x1.length : Int) 2) fun (y1 : wire_writer) =>
 Option.bind (loopF (wire_writer_qids_L1 x1) BIG (0, y1)) fun (o1 : wire_writer) =>
 some o1
def wire_writer_data (x0 : wire_writer) (x1 : Str) (x2 : Int) : Option wire_writer :=
 Option.bind (wire_writer_number x0 (x1.length : Int) x2) fun (y1 : wire_writer) =>
 Option.bind (wire_writer_add y1 x1 0) fun (y2 : wire_writer) =>
 some y2
def stat_put (x0 : stat_number) : Option Str :=
 (bif (x0.n_ == (-1)) then
 Option.bind (strings_Repeat [255] x0.width_) fun (y1 : Str) =>
 some (y1)
 else
 Option.bind (octet_Put x0.n_ x0.width_) fun (y2 : Str × Int) =>
 some (y2.1))
def stat_Put_L1 (y2 : (List stat_number)) (s2 : Str × Int × (List stat_number)) : Option (Step (Str × Int × (List stat_number)) Str) :=
 (bif (decide (s2.2.1 < (y2.length : Int))) then
 Option.bind (getI s2.2.2 s2.2.1) fun (y6 : stat_number) =>
 Option.bind (stat_put y6) fun (y7 : Str) =>
 Option.bind (cat s2.1 y7) fun (y8 : Str) =>
 some (.next (y8, (w64 (s2.2.1 + 1)), s2.2.2))
 else
 some (.done s2.1))
def stat_Put_L2 (x0 : api_Dir) (s4 : Str × Int × (List Str)) : Option (Step (Str × Int × (List Str)) (Out Str (Str × Int))) :=
 (bif (decide (s4.2.1 < ([x0.Name_, x0.Uid_, x0.Gid_, x0.Muid_].length : Int))) then
 Option.bind (getI s4.2.2 s4.2.1) fun (y12 : Str) =>
 Option.bind (octet_PutText y12) fun (y13 : Str × Int) =>
 (bif (y13.2 != 0) then
 some (.done (.ret (([], y13.2))))
 else
 Option.bind (cat s4.1 y13.1) fun (y14 : Str) =>
 some (.next (y14, (w64 (s4.2.1 + 1)), s4.2.2)))
 else
 some (.done (.fall s4.1)))
def stat_Put (x0 : api_Dir) : Option (Str × Int) :=
 Option.bind (stat_Check x0) fun (y1 : Int) =>
 (bif (y1 != 0) then
 some (([], y1))
 else
 Option.bind (stat_numbers x0) fun (y2 : (List stat_number)) =>
 Option.bind (loopF (stat_Put_L1 y2) BIG ([], 0, y2)) fun (o1 : Str) =>
 Option.bind (loopF (stat_Put_L2 x0) BIG (o1, 0, [x0.Name_, x0.Uid_, x0.Gid_, x0.Muid_])) fun (wo2 : Out Str (Str × Int)) => match wo2 with
 | .ret r2 => some r2
 | .fall o2 =>
 Option.bind (octet_Put (o2.length : Int) 2) fun (y15 : Str × Int) =>
 Option.bind (cat y15.1 o2) fun (y16 : Str) =>
 some ((y16, y15.2)))
def wire_writer_stat (x0 : wire_writer) (x1 : api_Dir) : Option wire_writer :=
 Option.bind (stat_Put x1) fun (y1 : Str × Int) =>
 Option.bind (wire_writer_add x0 [] y1.2) fun (y2 : wire_writer) =>
 Option.bind (wire_writer_data y2 y1.1 2) fun (y3 : wire_writer) =>
 some y3
def wire_writer_field (x0 : wire_writer) (x1 : api_Msg) (x2 : Int) : Option wire_writer :=
 (bif (x2 == 109) then
 Option.bind (wire_writer_number x0 x1.Msize_ 4) fun (y1 : wire_writer) =>
 some y1
 else
 (bif (x2 == 118) then
 Option.bind (wire_writer_text x0 x1.Version_) fun (y2 : wire_writer) =>
 some y2
 else
 (bif (x2 == 115) then
 Option.bind (wire_writer_text x0 x1.Session_) fun (y3 : wire_writer) =>
 some y3
 else
 (bif (x2 == 97) then
 Option.bind (wire_writer_number x0 x1.AuthFid_ 4) fun (y4 : wire_writer) =>
 some y4
 else
 (bif (x2 == 117) then
 Option.bind (wire_writer_text x0 x1.User_) fun (y5 : wire_writer) =>
 some y5
 else
 (bif (x2 == 120) then
 Option.bind (wire_writer_text x0 x1.Attach_) fun (y6 : wire_writer) =>
 some y6
 else
 (bif (x2 == 113) then
 Option.bind (wire_writer_qid x0 x1.Qid_) fun (y7 : wire_writer) =>
 some y7
 else
 (bif (x2 == 102) then
 Option.bind (wire_writer_number x0 x1.Fid_ 4) fun (y8 : wire_writer) =>
 some y8
 else
 (bif (x2 == 101) then
 Option.bind (fault_Text x1.Err_) fun (y9 : Str) =>
 Option.bind (wire_writer_text x0 y9) fun (y10 : wire_writer) =>
 some y10
 else
 (bif (x2 == 111) then
 Option.bind (wire_writer_number x0 x1.OldTag_ 2) fun (y11 : wire_writer) =>
 some y11
 else
 (bif (x2 == 110) then
 Option.bind (wire_writer_number x0 x1.NewFid_ 4) fun (y12 : wire_writer) =>
 some y12
 else
 (bif (x2 == 119) then
 Option.bind (wire_writer_names x0 x1.Names_) fun (y13 : wire_writer) =>
 some y13
 else
 (bif (x2 == 87) then
 Option.bind (wire_writer_qids x0 x1.Qids_) fun (y14 : wire_writer) =>
 some y14
 else
 (bif (x2 == 77) then
 Option.bind (wire_writer_number x0 x1.Mode_ 1) fun (y15 : wire_writer) =>
 some y15
 else
 (bif (x2 == 105) then
 Option.bind (wire_writer_number x0 x1.Iounit_ 4) fun (y16 : wire_writer) =>
 some y16
 else
 (bif (x2 == 78) then
 Option.bind (wire_writer_text x0 x1.Name_) fun (y17 : wire_writer) =>
 some y17
 else
 (bif (x2 == 112) then
 Option.bind (wire_writer_number x0 x1.Perm_ 4) fun (y18 : wire_writer) =>
 some y18
 else
 (bif (x2 == 79) then
 Option.bind (wire_writer_number x0 x1.Offset_ 8) fun (y19 : wire_writer) =>
 some y19
 else
 (bif (x2 == 99) then
 Option.bind (wire_writer_number x0 x1.Count_ 4) fun (y20 : wire_writer) =>
 some y20
 else
 (bif (x2 == 100) then
 Option.bind (wire_writer_data x0 x1.Data_ 4) fun (y21 : wire_writer) =>
 some y21
 else
 (bif (x2 == 83) then
 Option.bind (wire_writer_stat x0 x1.Stat_) fun (y22 : wire_writer) =>
 some y22
 else
 (bif (x2 == 108) then
 Option.bind (wire_writer_number x0 x1.Lease_ 1) fun (y23 : wire_writer) =>
 some y23
 else
 (bif (x2 == 116) then
 Option.bind (wire_writer_number x0 x1.Term_ 4) fun (y24 : wire_writer) =>
 some y24
 else
 some x0)))))))))))))))))))))))
def wire_Put_L1 (y4 : Str) (x0 : api_Msg) (s2 : Int × wire_writer) : Option (Step (Int × wire_writer) wire_writer) :=
 (bif (decide (s2.1 < (y4.length : Int))) then
 Option.bind (byteI y4 s2.1) fun (y7 : Int) =>
 Option.bind (wire_writer_field s2.2 x0 y7) fun (y8 : wire_writer) =>
 some (.next ((w64 (s2.1 + 1)), y8))
 else
 some (.done s2.2))
def wire_Put (x0 : api_Msg) : Option (Str × Int) :=
 Option.bind (msg_Check x0) fun (y1 : Int) =>
 (bif (y1 != 0) then
 some (([], y1))
 else
 Option.bind (wire_writer_number (wire_writer.mk [] 0) x0.Kind_ 1) fun (y2 : wire_writer) =>
 Option.bind (wire_writer_number y2 x0.Tag_ 2) fun (y3 : wire_writer) =>
 Option.bind (wire_layout x0.Kind_) fun (y4 : Str) =>
 Option.bind (loopF (wire_Put_L1 y4 x0) BIG (0, y3)) fun (o1 : wire_writer) =>
 (bif (o1.e_ != 0) then
 some (([], o1.e_))
 else
 (bif (decide ((w64 ((o1.s_.length : Int) + 4)) > 8192)) then
 some (([], 4))
 else
 Option.bind (octet_Put (w64 ((o1.s_.length : Int) + 4)) 4) fun (y9 : Str × Int) =>
 Option.bind (cat y9.1 o1.s_) fun (y10 : Str) =>
 some ((y10, 0)))))
def octet_Get_L1 (x0 : Str) (x1 : Int) (s2 : Int × Int) : Option (Step (Int × Int) Int) :=
 (bif (decide (s2.2 ≥ 0)) then
 Option.bind (byteI x0 (w64 (x1 + s2.2))) fun (y2 : Int) =>
 some (.next ((orI .u64 (IntKind.u64.wrap (s2.1 * 2 ^ 8)) (IntKind.u64.wrap y2)), (w64 (s2.2 - 1))))
 else
 some (.done s2.1))
def octet_Get (x0 : Str) (x1 : Int) (x2 : Int) : Option (Int × Int × Int) :=
 (bif ((((decide (x2 < 1)) || (decide (x2 > 8))) || (decide (x1 < 0))) || (decide (x1 > (x0.length : Int)))) then
 some ((0, 0, 1))
 else
 (bif (decide ((w64 ((x0.length : Int) - x1)) < x2)) then
 some ((0, 0, 3))
 else
 Option.bind (loopF (octet_Get_L1 x0 x1) BIG (0, (w64 (x2 - 1)))) fun (o1 : Int) =>
 (bif (decide (o1 > 9223372036854775807)) then
 some ((0, 0, 5))
 else
 some (((w64 (o1)), (w64 (x1 + x2)), 0)))))
def wire_reader_number (x0 : wire_reader) (x1 : Int) : Option (Int × wire_reader) :=
 (bif (!x0.ok_) then
 some ((0, x0))
 else
 Option.bind (octet_Get x0.s_ x0.at_ x1) fun (y1 : Int × Int × Int) =>
 (bif (y1.2.2 != 0) then
 some ((0, (wire_reader.mk x0.s_ x0.at_ false)))
 else
 some ((y1.1, (wire_reader.mk x0.s_ y1.2.1 x0.ok_)))))
def octet_GetText (x0 : Str) (x1 : Int) : Option (Str × Int × Int) :=
 Option.bind (octet_Get x0 x1 2) fun (y1 : Int × Int × Int) =>
 (bif (y1.2.2 != 0) then
 some (([], 0, y1.2.2))
 else
 (bif (decide ((w64 ((x0.length : Int) - y1.2.1)) < y1.1)) then
 some (([], 0, 3))
 else
 Option.bind (subI x0 y1.2.1 (w64 (y1.2.1 + y1.1))) fun (y2 : Str) =>
 some ((y2, (w64 (y1.2.1 + y1.1)), 0))))
def wire_reader_text (x0 : wire_reader) : Option (Str × wire_reader) :=
 (bif (!x0.ok_) then
 some (([], x0))
 else
 Option.bind (octet_GetText x0.s_ x0.at_) fun (y1 : Str × Int × Int) =>
 (bif (y1.2.2 != 0) then
 some (([], (wire_reader.mk x0.s_ x0.at_ false)))
 else
 some ((y1.1, (wire_reader.mk x0.s_ y1.2.1 x0.ok_)))))
def wire_reader_qid (x0 : wire_reader) : Option (api_Qid × wire_reader) :=
 Option.bind (wire_reader_number x0 1) fun (y1 : Int × wire_reader) =>
 Option.bind (wire_reader_number y1.2 4) fun (y2 : Int × wire_reader) =>
 Option.bind (wire_reader_number y2.2 8) fun (y3 : Int × wire_reader) =>
 some (((api_Qid.mk y1.1 y2.1 y3.1), y3.2))
def fault_Find_L1 (x0 : Str) (s2 : Int) : Option (Step Int (Out Unit (Int × Bool))) :=
 (bif (decide (s2 ≤ 59)) then
 Option.bind (fault_Text s2) fun (y2 : Str) =>
 (bif (y2 == x0) then
 some (.done (.ret ((s2, true))))
 else
 some (.next (w64 (s2 + 1))))
 else
 some (.done (.fall ())))
def fault_Find (x0 : Str) : Option (Int × Bool) :=
 (bif (x0 == []) then
 some ((0, false))
 else
 Option.bind (loopF (fault_Find_L1 x0) BIG 1) fun (wo1 : Out Unit (Int × Bool)) => match wo1 with
 | .ret r1 => some r1
 | .fall _ =>
 some ((0, false)))
def wire_reader_fault (x0 : wire_reader) : Option (Int × wire_reader) :=
 Option.bind (wire_reader_text x0) fun (y1 : Str × wire_reader) =>
 Option.bind (fault_Find y1.1) fun (y2 : Int × Bool) =>
 some ((y2.1, (wire_reader.mk y1.2.s_ y1.2.at_ (y1.2.ok_ && y2.2))))
def wire_reader_names_L1 (s2 : Int × wire_reader × (List Str)) : Option (Step (Int × wire_reader × (List Str)) ((List Str) × wire_reader)) :=
 (bif ((decide (s2.1 > 0)) && s2.2.1.ok_) then
 Option.bind (wire_reader_text s2.2.1) fun (y4 : Str × wire_reader) =>
 Option.bind (room 16 s2.2.2 [y4.1]) fun (y5 : List Str) =>
 some (.next ((w64 (s2.1 - 1)), y4.2, y5))
 else
 some (.done (s2.2.2, s2.2.1)))
def wire_reader_names (x0 : wire_reader) : Option ((List Str) × wire_reader) :=
 Option.bind (wire_reader_number x0 2) fun (y1 : Int × wire_reader) =>
 Option.bind (loopF wire_reader_names_L1 BIG (y1.1, y1.2, [])) fun (o1 : (List Str) × wire_reader) =>
 some ((o1.1, o1.2))
def wire_reader_qids_L1 (s2 : Int × wire_reader × (List api_Qid)) : Option (Step (Int × wire_reader × (List api_Qid)) ((List api_Qid) × wire_reader)) :=
 (bif ((decide (s2.1 > 0)) && s2.2.1.ok_) then
 Option.bind (wire_reader_qid s2.2.1) fun (y4 : api_Qid × wire_reader) =>
 Option.bind (room 24 s2.2.2 [y4.1]) fun (y5 : List api_Qid) =>
 some (.next ((w64 (s2.1 - 1)), y4.2, y5))
 else
 some (.done (s2.2.2, s2.2.1)))
def wire_reader_qids (x0 : wire_reader) : Option ((List api_Qid) × wire_reader) :=
 Option.bind (wire_reader_number x0 2) fun (y1 : Int × wire_reader) =>
 Option.bind (loopF wire_reader_qids_L1 BIG (y1.1, y1.2, [])) fun (o1 : (List api_Qid) × wire_reader) =>
 some ((o1.1, o1.2))
def wire_reader_data (x0 : wire_reader) (x1 : Int) : Option (Str × wire_reader) :=
 Option.bind (wire_reader_number x0 x1) fun (y1 : Int × wire_reader) =>
 (bif ((!y1.2.ok_) || (decide (y1.1 > (w64 ((y1.2.s_.length : Int) - y1.2.at_))))) then
 some (([], (wire_reader.mk y1.2.s_ y1.2.at_ false)))
 else
 Option.bind (subI y1.2.s_ (w64 ((w64 (y1.2.at_ + y1.1)) - y1.1)) (w64 (y1.2.at_ + y1.1))) fun (y2 : Str) =>
 some ((y2, (wire_reader.mk y1.2.s_ (w64 (y1.2.at_ + y1.1)) y1.2.ok_))))
def stat_reader_number (x0 : stat_reader) (x1 : Int) : Option (Int × stat_reader) :=
 (bif ((!x0.ok_) || (decide ((w64 ((x0.s_.length : Int) - x0.at_)) < x1))) then
 some ((0, (stat_reader.mk x0.s_ x0.at_ false)))
 else
 Option.bind (subI x0.s_ x0.at_ (w64 (x0.at_ + x1))) fun (y1 : Str) =>
 Option.bind (strings_Count y1 [255]) fun (y2 : Int) =>
 (bif (y2 == x1) then
 some (((-1), (stat_reader.mk x0.s_ (w64 (x0.at_ + x1)) x0.ok_)))
 else
 Option.bind (octet_Get y1 0 x1) fun (y3 : Int × Int × Int) =>
 (bif (y3.2.2 != 0) then
 some (((-2), (stat_reader.mk x0.s_ (w64 (x0.at_ + x1)) x0.ok_)))
 else
 some ((y3.1, (stat_reader.mk x0.s_ (w64 (x0.at_ + x1)) x0.ok_))))))
def stat_reader_text (x0 : stat_reader) : Option (Str × stat_reader) :=
 (bif (!x0.ok_) then
 some (([], x0))
 else
 Option.bind (octet_GetText x0.s_ x0.at_) fun (y1 : Str × Int × Int) =>
 (bif (y1.2.2 != 0) then
 some (([], (stat_reader.mk x0.s_ x0.at_ false)))
 else
 some ((y1.1, (stat_reader.mk x0.s_ y1.2.1 x0.ok_)))))
def stat_reader_read (x0 : stat_reader) : Option (api_Dir × stat_reader) :=
 Option.bind (stat_reader_number x0 2) fun (y1 : Int × stat_reader) =>
 Option.bind (stat_reader_number y1.2 4) fun (y2 : Int × stat_reader) =>
 Option.bind (stat_reader_number y2.2 1) fun (y3 : Int × stat_reader) =>
 Option.bind (stat_reader_number y3.2 4) fun (y4 : Int × stat_reader) =>
 Option.bind (stat_reader_number y4.2 8) fun (y5 : Int × stat_reader) =>
 Option.bind (stat_reader_number y5.2 4) fun (y6 : Int × stat_reader) =>
 Option.bind (stat_reader_number y6.2 8) fun (y7 : Int × stat_reader) =>
 Option.bind (stat_reader_number y7.2 8) fun (y8 : Int × stat_reader) =>
 Option.bind (stat_reader_number y8.2 8) fun (y9 : Int × stat_reader) =>
 Option.bind (stat_reader_text y9.2) fun (y10 : Str × stat_reader) =>
 Option.bind (stat_reader_text y10.2) fun (y11 : Str × stat_reader) =>
 Option.bind (stat_reader_text y11.2) fun (y12 : Str × stat_reader) =>
 Option.bind (stat_reader_text y12.2) fun (y13 : Str × stat_reader) =>
 some (((api_Dir.mk y1.1 y2.1 (api_Qid.mk y3.1 y4.1 y5.1) y6.1 y7.1 y8.1 y9.1 y10.1 y11.1 y12.1 y13.1), y13.2))
def stat_Get (x0 : Str) (x1 : Int) : Option (api_Dir × Int × Int) :=
 Option.bind (octet_Get x0 x1 2) fun (y1 : Int × Int × Int) =>
 (bif (y1.2.2 != 0) then
 some (((api_Dir.mk 0 0 (api_Qid.mk 0 0 0) 0 0 0 0 [] [] [] []), 0, y1.2.2))
 else
 (bif (decide ((w64 ((x0.length : Int) - y1.2.1)) < y1.1)) then
 some (((api_Dir.mk 0 0 (api_Qid.mk 0 0 0) 0 0 0 0 [] [] [] []), 0, 3))
 else
 Option.bind (subI x0 y1.2.1 (w64 (y1.2.1 + y1.1))) fun (y2 : Str) =>
 Option.bind (stat_reader_read (stat_reader.mk y2 0 true)) fun (y3 : api_Dir × stat_reader) =>
 (bif ((!y3.2.ok_) || (y3.2.at_ != y1.1)) then
 some (((api_Dir.mk 0 0 (api_Qid.mk 0 0 0) 0 0 0 0 [] [] [] []), 0, 2))
 else
 Option.bind (stat_Check y3.1) fun (y4 : Int) =>
 (bif (y4 != 0) then
 some (((api_Dir.mk 0 0 (api_Qid.mk 0 0 0) 0 0 0 0 [] [] [] []), 0, y4))
 else
 some ((y3.1, (w64 (y1.2.1 + y1.1)), 0))))))
def wire_reader_stat (x0 : wire_reader) : Option (api_Dir × wire_reader) :=
 Option.bind (wire_reader_data x0 2) fun (y1 : Str × wire_reader) =>
 (bif (!y1.2.ok_) then
 some (((api_Dir.mk 0 0 (api_Qid.mk 0 0 0) 0 0 0 0 [] [] [] []), y1.2))
 else
 Option.bind (stat_Get y1.1 0) fun (y2 : api_Dir × Int × Int) =>
 some ((y2.1, (wire_reader.mk y1.2.s_ y1.2.at_ ((y2.2.2 == 0) && (y2.2.1 == (y1.1.length : Int)))))))
def wire_reader_field (x0 : wire_reader) (x1 : api_Msg) (x2 : Int) : Option (wire_reader × api_Msg) :=
 (bif (x2 == 109) then
 Option.bind (wire_reader_number x0 4) fun (y1 : Int × wire_reader) =>
 some (y1.2, (api_Msg.mk x1.Kind_ x1.Tag_ x1.Fid_ x1.NewFid_ x1.AuthFid_ x1.OldTag_ y1.1 x1.Version_ x1.User_ x1.Attach_ x1.Names_ x1.Qids_ x1.Qid_ x1.Iounit_ x1.Mode_ x1.Perm_ x1.Name_ x1.Offset_ x1.Count_ x1.Data_ x1.Stat_ x1.Err_ x1.Lease_ x1.Term_ x1.Session_))
 else
 (bif (x2 == 118) then
 Option.bind (wire_reader_text x0) fun (y2 : Str × wire_reader) =>
 some (y2.2, (api_Msg.mk x1.Kind_ x1.Tag_ x1.Fid_ x1.NewFid_ x1.AuthFid_ x1.OldTag_ x1.Msize_ y2.1 x1.User_ x1.Attach_ x1.Names_ x1.Qids_ x1.Qid_ x1.Iounit_ x1.Mode_ x1.Perm_ x1.Name_ x1.Offset_ x1.Count_ x1.Data_ x1.Stat_ x1.Err_ x1.Lease_ x1.Term_ x1.Session_))
 else
 (bif (x2 == 115) then
 Option.bind (wire_reader_text x0) fun (y3 : Str × wire_reader) =>
 some (y3.2, (api_Msg.mk x1.Kind_ x1.Tag_ x1.Fid_ x1.NewFid_ x1.AuthFid_ x1.OldTag_ x1.Msize_ x1.Version_ x1.User_ x1.Attach_ x1.Names_ x1.Qids_ x1.Qid_ x1.Iounit_ x1.Mode_ x1.Perm_ x1.Name_ x1.Offset_ x1.Count_ x1.Data_ x1.Stat_ x1.Err_ x1.Lease_ x1.Term_ y3.1))
 else
 (bif (x2 == 97) then
 Option.bind (wire_reader_number x0 4) fun (y4 : Int × wire_reader) =>
 some (y4.2, (api_Msg.mk x1.Kind_ x1.Tag_ x1.Fid_ x1.NewFid_ y4.1 x1.OldTag_ x1.Msize_ x1.Version_ x1.User_ x1.Attach_ x1.Names_ x1.Qids_ x1.Qid_ x1.Iounit_ x1.Mode_ x1.Perm_ x1.Name_ x1.Offset_ x1.Count_ x1.Data_ x1.Stat_ x1.Err_ x1.Lease_ x1.Term_ x1.Session_))
 else
 (bif (x2 == 117) then
 Option.bind (wire_reader_text x0) fun (y5 : Str × wire_reader) =>
 some (y5.2, (api_Msg.mk x1.Kind_ x1.Tag_ x1.Fid_ x1.NewFid_ x1.AuthFid_ x1.OldTag_ x1.Msize_ x1.Version_ y5.1 x1.Attach_ x1.Names_ x1.Qids_ x1.Qid_ x1.Iounit_ x1.Mode_ x1.Perm_ x1.Name_ x1.Offset_ x1.Count_ x1.Data_ x1.Stat_ x1.Err_ x1.Lease_ x1.Term_ x1.Session_))
 else
 (bif (x2 == 120) then
 Option.bind (wire_reader_text x0) fun (y6 : Str × wire_reader) =>
 some (y6.2, (api_Msg.mk x1.Kind_ x1.Tag_ x1.Fid_ x1.NewFid_ x1.AuthFid_ x1.OldTag_ x1.Msize_ x1.Version_ x1.User_ y6.1 x1.Names_ x1.Qids_ x1.Qid_ x1.Iounit_ x1.Mode_ x1.Perm_ x1.Name_ x1.Offset_ x1.Count_ x1.Data_ x1.Stat_ x1.Err_ x1.Lease_ x1.Term_ x1.Session_))
 else
 (bif (x2 == 113) then
 Option.bind (wire_reader_qid x0) fun (y7 : api_Qid × wire_reader) =>
 some (y7.2, (api_Msg.mk x1.Kind_ x1.Tag_ x1.Fid_ x1.NewFid_ x1.AuthFid_ x1.OldTag_ x1.Msize_ x1.Version_ x1.User_ x1.Attach_ x1.Names_ x1.Qids_ y7.1 x1.Iounit_ x1.Mode_ x1.Perm_ x1.Name_ x1.Offset_ x1.Count_ x1.Data_ x1.Stat_ x1.Err_ x1.Lease_ x1.Term_ x1.Session_))
 else
 (bif (x2 == 102) then
 Option.bind (wire_reader_number x0 4) fun (y8 : Int × wire_reader) =>
 some (y8.2, (api_Msg.mk x1.Kind_ x1.Tag_ y8.1 x1.NewFid_ x1.AuthFid_ x1.OldTag_ x1.Msize_ x1.Version_ x1.User_ x1.Attach_ x1.Names_ x1.Qids_ x1.Qid_ x1.Iounit_ x1.Mode_ x1.Perm_ x1.Name_ x1.Offset_ x1.Count_ x1.Data_ x1.Stat_ x1.Err_ x1.Lease_ x1.Term_ x1.Session_))
 else
 (bif (x2 == 101) then
 Option.bind (wire_reader_fault x0) fun (y9 : Int × wire_reader) =>
 some (y9.2, (api_Msg.mk x1.Kind_ x1.Tag_ x1.Fid_ x1.NewFid_ x1.AuthFid_ x1.OldTag_ x1.Msize_ x1.Version_ x1.User_ x1.Attach_ x1.Names_ x1.Qids_ x1.Qid_ x1.Iounit_ x1.Mode_ x1.Perm_ x1.Name_ x1.Offset_ x1.Count_ x1.Data_ x1.Stat_ y9.1 x1.Lease_ x1.Term_ x1.Session_))
 else
 (bif (x2 == 111) then
 Option.bind (wire_reader_number x0 2) fun (y10 : Int × wire_reader) =>
 some (y10.2, (api_Msg.mk x1.Kind_ x1.Tag_ x1.Fid_ x1.NewFid_ x1.AuthFid_ y10.1 x1.Msize_ x1.Version_ x1.User_ x1.Attach_ x1.Names_ x1.Qids_ x1.Qid_ x1.Iounit_ x1.Mode_ x1.Perm_ x1.Name_ x1.Offset_ x1.Count_ x1.Data_ x1.Stat_ x1.Err_ x1.Lease_ x1.Term_ x1.Session_))
 else
 (bif (x2 == 110) then
 Option.bind (wire_reader_number x0 4) fun (y11 : Int × wire_reader) =>
 some (y11.2, (api_Msg.mk x1.Kind_ x1.Tag_ x1.Fid_ y11.1 x1.AuthFid_ x1.OldTag_ x1.Msize_ x1.Version_ x1.User_ x1.Attach_ x1.Names_ x1.Qids_ x1.Qid_ x1.Iounit_ x1.Mode_ x1.Perm_ x1.Name_ x1.Offset_ x1.Count_ x1.Data_ x1.Stat_ x1.Err_ x1.Lease_ x1.Term_ x1.Session_))
 else
 (bif (x2 == 119) then
 Option.bind (wire_reader_names x0) fun (y12 : (List Str) × wire_reader) =>
 some (y12.2, (api_Msg.mk x1.Kind_ x1.Tag_ x1.Fid_ x1.NewFid_ x1.AuthFid_ x1.OldTag_ x1.Msize_ x1.Version_ x1.User_ x1.Attach_ y12.1 x1.Qids_ x1.Qid_ x1.Iounit_ x1.Mode_ x1.Perm_ x1.Name_ x1.Offset_ x1.Count_ x1.Data_ x1.Stat_ x1.Err_ x1.Lease_ x1.Term_ x1.Session_))
 else
 (bif (x2 == 87) then
 Option.bind (wire_reader_qids x0) fun (y13 : (List api_Qid) × wire_reader) =>
 some (y13.2, (api_Msg.mk x1.Kind_ x1.Tag_ x1.Fid_ x1.NewFid_ x1.AuthFid_ x1.OldTag_ x1.Msize_ x1.Version_ x1.User_ x1.Attach_ x1.Names_ y13.1 x1.Qid_ x1.Iounit_ x1.Mode_ x1.Perm_ x1.Name_ x1.Offset_ x1.Count_ x1.Data_ x1.Stat_ x1.Err_ x1.Lease_ x1.Term_ x1.Session_))
 else
 (bif (x2 == 77) then
 Option.bind (wire_reader_number x0 1) fun (y14 : Int × wire_reader) =>
 some (y14.2, (api_Msg.mk x1.Kind_ x1.Tag_ x1.Fid_ x1.NewFid_ x1.AuthFid_ x1.OldTag_ x1.Msize_ x1.Version_ x1.User_ x1.Attach_ x1.Names_ x1.Qids_ x1.Qid_ x1.Iounit_ y14.1 x1.Perm_ x1.Name_ x1.Offset_ x1.Count_ x1.Data_ x1.Stat_ x1.Err_ x1.Lease_ x1.Term_ x1.Session_))
 else
 (bif (x2 == 105) then
 Option.bind (wire_reader_number x0 4) fun (y15 : Int × wire_reader) =>
 some (y15.2, (api_Msg.mk x1.Kind_ x1.Tag_ x1.Fid_ x1.NewFid_ x1.AuthFid_ x1.OldTag_ x1.Msize_ x1.Version_ x1.User_ x1.Attach_ x1.Names_ x1.Qids_ x1.Qid_ y15.1 x1.Mode_ x1.Perm_ x1.Name_ x1.Offset_ x1.Count_ x1.Data_ x1.Stat_ x1.Err_ x1.Lease_ x1.Term_ x1.Session_))
 else
 (bif (x2 == 78) then
 Option.bind (wire_reader_text x0) fun (y16 : Str × wire_reader) =>
 some (y16.2, (api_Msg.mk x1.Kind_ x1.Tag_ x1.Fid_ x1.NewFid_ x1.AuthFid_ x1.OldTag_ x1.Msize_ x1.Version_ x1.User_ x1.Attach_ x1.Names_ x1.Qids_ x1.Qid_ x1.Iounit_ x1.Mode_ x1.Perm_ y16.1 x1.Offset_ x1.Count_ x1.Data_ x1.Stat_ x1.Err_ x1.Lease_ x1.Term_ x1.Session_))
 else
 (bif (x2 == 112) then
 Option.bind (wire_reader_number x0 4) fun (y17 : Int × wire_reader) =>
 some (y17.2, (api_Msg.mk x1.Kind_ x1.Tag_ x1.Fid_ x1.NewFid_ x1.AuthFid_ x1.OldTag_ x1.Msize_ x1.Version_ x1.User_ x1.Attach_ x1.Names_ x1.Qids_ x1.Qid_ x1.Iounit_ x1.Mode_ y17.1 x1.Name_ x1.Offset_ x1.Count_ x1.Data_ x1.Stat_ x1.Err_ x1.Lease_ x1.Term_ x1.Session_))
 else
 (bif (x2 == 79) then
 Option.bind (wire_reader_number x0 8) fun (y18 : Int × wire_reader) =>
 some (y18.2, (api_Msg.mk x1.Kind_ x1.Tag_ x1.Fid_ x1.NewFid_ x1.AuthFid_ x1.OldTag_ x1.Msize_ x1.Version_ x1.User_ x1.Attach_ x1.Names_ x1.Qids_ x1.Qid_ x1.Iounit_ x1.Mode_ x1.Perm_ x1.Name_ y18.1 x1.Count_ x1.Data_ x1.Stat_ x1.Err_ x1.Lease_ x1.Term_ x1.Session_))
 else
 (bif (x2 == 99) then
 Option.bind (wire_reader_number x0 4) fun (y19 : Int × wire_reader) =>
 some (y19.2, (api_Msg.mk x1.Kind_ x1.Tag_ x1.Fid_ x1.NewFid_ x1.AuthFid_ x1.OldTag_ x1.Msize_ x1.Version_ x1.User_ x1.Attach_ x1.Names_ x1.Qids_ x1.Qid_ x1.Iounit_ x1.Mode_ x1.Perm_ x1.Name_ x1.Offset_ y19.1 x1.Data_ x1.Stat_ x1.Err_ x1.Lease_ x1.Term_ x1.Session_))
 else
 (bif (x2 == 100) then
 Option.bind (wire_reader_data x0 4) fun (y20 : Str × wire_reader) =>
 some (y20.2, (api_Msg.mk x1.Kind_ x1.Tag_ x1.Fid_ x1.NewFid_ x1.AuthFid_ x1.OldTag_ x1.Msize_ x1.Version_ x1.User_ x1.Attach_ x1.Names_ x1.Qids_ x1.Qid_ x1.Iounit_ x1.Mode_ x1.Perm_ x1.Name_ x1.Offset_ x1.Count_ y20.1 x1.Stat_ x1.Err_ x1.Lease_ x1.Term_ x1.Session_))
 else
 (bif (x2 == 83) then
 Option.bind (wire_reader_stat x0) fun (y21 : api_Dir × wire_reader) =>
 some (y21.2, (api_Msg.mk x1.Kind_ x1.Tag_ x1.Fid_ x1.NewFid_ x1.AuthFid_ x1.OldTag_ x1.Msize_ x1.Version_ x1.User_ x1.Attach_ x1.Names_ x1.Qids_ x1.Qid_ x1.Iounit_ x1.Mode_ x1.Perm_ x1.Name_ x1.Offset_ x1.Count_ x1.Data_ y21.1 x1.Err_ x1.Lease_ x1.Term_ x1.Session_))
 else
 (bif (x2 == 108) then
 Option.bind (wire_reader_number x0 1) fun (y22 : Int × wire_reader) =>
 some (y22.2, (api_Msg.mk x1.Kind_ x1.Tag_ x1.Fid_ x1.NewFid_ x1.AuthFid_ x1.OldTag_ x1.Msize_ x1.Version_ x1.User_ x1.Attach_ x1.Names_ x1.Qids_ x1.Qid_ x1.Iounit_ x1.Mode_ x1.Perm_ x1.Name_ x1.Offset_ x1.Count_ x1.Data_ x1.Stat_ x1.Err_ y22.1 x1.Term_ x1.Session_))
 else
 (bif (x2 == 116) then
 Option.bind (wire_reader_number x0 4) fun (y23 : Int × wire_reader) =>
 some (y23.2, (api_Msg.mk x1.Kind_ x1.Tag_ x1.Fid_ x1.NewFid_ x1.AuthFid_ x1.OldTag_ x1.Msize_ x1.Version_ x1.User_ x1.Attach_ x1.Names_ x1.Qids_ x1.Qid_ x1.Iounit_ x1.Mode_ x1.Perm_ x1.Name_ x1.Offset_ x1.Count_ x1.Data_ x1.Stat_ x1.Err_ x1.Lease_ y23.1 x1.Session_))
 else
 some (x0, x1))))))))))))))))))))))))
def wire_Get_L1 (y5 : Str) (s2 : Int × wire_reader × api_Msg) : Option (Step (Int × wire_reader × api_Msg) (wire_reader × api_Msg)) :=
 (bif (decide (s2.1 < (y5.length : Int))) then
 Option.bind (byteI y5 s2.1) fun (y8 : Int) =>
 Option.bind (wire_reader_field s2.2.1 s2.2.2 y8) fun (y9 : wire_reader × api_Msg) =>
 some (.next ((w64 (s2.1 + 1)), y9.1, y9.2))
 else
 some (.done (s2.2.1, s2.2.2)))
def wire_Get (x0 : Str) (x1 : Int) : Option (api_Msg × Int × Int) :=
 Option.bind (octet_Get x0 x1 4) fun (y1 : Int × Int × Int) =>
 (bif (y1.2.2 != 0) then
 some (((api_Msg.mk 0 0 0 0 0 0 0 [] [] [] [] [] (api_Qid.mk 0 0 0) 0 0 0 [] 0 0 [] (api_Dir.mk 0 0 (api_Qid.mk 0 0 0) 0 0 0 0 [] [] [] []) 0 0 0 []), 0, y1.2.2))
 else
 (bif (decide (y1.1 > 8192)) then
 some (((api_Msg.mk 0 0 0 0 0 0 0 [] [] [] [] [] (api_Qid.mk 0 0 0) 0 0 0 [] 0 0 [] (api_Dir.mk 0 0 (api_Qid.mk 0 0 0) 0 0 0 0 [] [] [] []) 0 0 0 []), 0, 4))
 else
 (bif (decide (y1.1 < 7)) then
 some (((api_Msg.mk 0 0 0 0 0 0 0 [] [] [] [] [] (api_Qid.mk 0 0 0) 0 0 0 [] 0 0 [] (api_Dir.mk 0 0 (api_Qid.mk 0 0 0) 0 0 0 0 [] [] [] []) 0 0 0 []), 0, 2))
 else
 (bif (decide (y1.1 > (w64 ((x0.length : Int) - x1)))) then
 some (((api_Msg.mk 0 0 0 0 0 0 0 [] [] [] [] [] (api_Qid.mk 0 0 0) 0 0 0 [] 0 0 [] (api_Dir.mk 0 0 (api_Qid.mk 0 0 0) 0 0 0 0 [] [] [] []) 0 0 0 []), 0, 3))
 else
 Option.bind (subI x0 x1 (w64 (x1 + y1.1))) fun (y2 : Str) =>
 Option.bind (wire_reader_number (wire_reader.mk y2 4 true) 1) fun (y3 : Int × wire_reader) =>
 Option.bind (wire_reader_number y3.2 2) fun (y4 : Int × wire_reader) =>
 Option.bind (wire_layout y3.1) fun (y5 : Str) =>
 Option.bind (loopF (wire_Get_L1 y5) BIG (0, y4.2, (api_Msg.mk y3.1 y4.1 0 0 0 0 0 [] [] [] [] [] (api_Qid.mk 0 0 0) 0 0 0 [] 0 0 [] (api_Dir.mk 0 0 (api_Qid.mk 0 0 0) 0 0 0 0 [] [] [] []) 0 0 0 []))) fun (o1 : wire_reader × api_Msg) =>
 Option.bind (msg_Name o1.2.Kind_) fun (y10 : Str) =>
 (bif (((y10 == []) || (!o1.1.ok_)) || (o1.1.at_ != y1.1)) then
 some (((api_Msg.mk 0 0 0 0 0 0 0 [] [] [] [] [] (api_Qid.mk 0 0 0) 0 0 0 [] 0 0 [] (api_Dir.mk 0 0 (api_Qid.mk 0 0 0) 0 0 0 0 [] [] [] []) 0 0 0 []), 0, 2))
 else
 Option.bind (msg_Check o1.2) fun (y11 : Int) =>
 (bif (y11 != 0) then
 some (((api_Msg.mk 0 0 0 0 0 0 0 [] [] [] [] [] (api_Qid.mk 0 0 0) 0 0 0 [] 0 0 [] (api_Dir.mk 0 0 (api_Qid.mk 0 0 0) 0 0 0 0 [] [] [] []) 0 0 0 []), 0, y11))
 else
 some ((o1.2, (w64 (x1 + y1.1)), 0))))))))
def wire_Split_L1 (o1 : Int) (s2 : Str × (List api_Msg)) : Option (Step (Str × (List api_Msg)) (Out (Str × (List api_Msg)) ((List api_Msg) × Str × Int))) :=
 (bif (decide ((s2.1.length : Int) ≥ 4)) then
 Option.bind (octet_Get s2.1 0 4) fun (y5 : Int × Int × Int) =>
 (bif (((y5.2.2 != 0) || (decide (y5.1 > o1))) || (decide (y5.1 < 7))) then
 some (.done (.ret (([], [], 19))))
 else
 (bif (decide ((s2.1.length : Int) < y5.1)) then
 some (.done (.fall (s2.1, s2.2)))
 else
 Option.bind (wire_Get s2.1 0) fun (y6 : api_Msg × Int × Int) =>
 (bif (y6.2.2 != 0) then
 some (.done (.ret (([], [], y6.2.2))))
 else
 Option.bind (subI s2.1 y6.2.1 (s2.1.length : Int)) fun (y7 : Str) =>
 Option.bind (room 424 s2.2 [y6.1]) fun (y8 : List api_Msg) =>
 some (.next (y7, y8)))))
 else
 some (.done (.fall (s2.1, s2.2))))
def wire_Split (x0 : Str) (x1 : Int) : Option ((List api_Msg) × Str × Int) :=
 Option.bind (
 (bif ((x1 == 0) || (decide (x1 > 8192))) then
 some 8192
 else
 some x1)
 ) fun (o1 : Int) =>
 Option.bind (loopF (wire_Split_L1 o1) BIG (x0, [])) fun (wo2 : Out (Str × (List api_Msg)) ((List api_Msg) × Str × Int)) => match wo2 with
 | .ret r2 => some r2
 | .fall o2 =>
 some ((o2.2, o2.1, 0))
def wire_Size (x0 : api_Msg) : Option Int :=
 Option.bind (wire_Put x0) fun (y1 : Str × Int) =>
 some ((y1.1.length : Int))
def ref08_Same_L1 (x0 : api_Msg) (x1 : api_Msg) (s2 : Int) : Option (Step Int (Out Unit Bool)) :=
 (bif (decide (s2 < (x0.Names_.length : Int))) then
 Option.bind (getI x0.Names_ s2) fun (y3 : Str) =>
 Option.bind (getI x1.Names_ s2) fun (y4 : Str) =>
 (bif (!(y3 == y4)) then
 some (.done (.ret (false)))
 else
 some (.next (w64 (s2 + 1))))
 else
 some (.done (.fall ())))
def ref08_Same_L2 (x0 : api_Msg) (x1 : api_Msg) (s4 : Int) : Option (Step Int (Out Unit Bool)) :=
 (bif (decide (s4 < (x0.Qids_.length : Int))) then
 Option.bind (getI x0.Qids_ s4) fun (y7 : api_Qid) =>
 Option.bind (getI x1.Qids_ s4) fun (y8 : api_Qid) =>
 (bif (!(decide (y7 = y8))) then
 some (.done (.ret (false)))
 else
 some (.next (w64 (s4 + 1))))
 else
 some (.done (.fall ())))
def ref08_Same (x0 : api_Msg) (x1 : api_Msg) : Option Bool :=
 (bif (((x0.Names_.length : Int) != (x1.Names_.length : Int)) || ((x0.Qids_.length : Int) != (x1.Qids_.length : Int))) then
 some (false)
 else
 Option.bind (loopF (ref08_Same_L1 x0 x1) BIG 0) fun (wo1 : Out Unit Bool) => match wo1 with
 | .ret r1 => some r1
 | .fall _ =>
 Option.bind (loopF (ref08_Same_L2 x0 x1) BIG 0) fun (wo2 : Out Unit Bool) => match wo2 with
 | .ret r2 => some r2
 | .fall _ =>
 some (((((((((((((((((((x0.Kind_ == x1.Kind_) && (x0.Tag_ == x1.Tag_)) && (x0.Fid_ == x1.Fid_)) && (x0.NewFid_ == x1.NewFid_)) && (x0.AuthFid_ == x1.AuthFid_)) && (x0.OldTag_ == x1.OldTag_)) && (x0.Msize_ == x1.Msize_)) && (x0.Iounit_ == x1.Iounit_)) && (x0.Mode_ == x1.Mode_)) && (x0.Perm_ == x1.Perm_)) && (x0.Offset_ == x1.Offset_)) && (x0.Count_ == x1.Count_)) && ((((((x0.Version_ == x1.Version_) && (x0.User_ == x1.User_)) && (x0.Attach_ == x1.Attach_)) && (x0.Name_ == x1.Name_)) && (x0.Data_ == x1.Data_)) && (x0.Session_ == x1.Session_))) && (decide (x0.Qid_ = x1.Qid_))) && (decide (x0.Stat_ = x1.Stat_))) && (x0.Err_ == x1.Err_)) && (x0.Lease_ == x1.Lease_)) && (x0.Term_ == x1.Term_))))
def law09_alive  : Option Bool :=
 Option.bind (wire_Put (api_Msg.mk 120 1 7 0 0 0 0 [] [] [] [] [] (api_Qid.mk 0 0 0) 0 0 0 [] 0 0 [] (api_Dir.mk 0 0 (api_Qid.mk 0 0 0) 0 0 0 0 [] [] [] []) 0 0 0 [])) fun (y1 : Str × Int) =>
 Option.bind (wire_Get [11, 0, 0, 0, 120, 1, 0, 7, 0, 0, 0] 0) fun (y2 : api_Msg × Int × Int) =>
 Option.bind (subI [11, 0, 0, 0, 120, 1, 0, 7, 0, 0, 0] 0 10) fun (y3 : Str) =>
 Option.bind (wire_Get y3 0) fun (y4 : api_Msg × Int × Int) =>
 Option.bind (subI [11, 0, 0, 0, 120, 1, 0, 7, 0, 0, 0] 0 3) fun (y5 : Str) =>
 Option.bind (cat [11, 0, 0, 0, 120, 1, 0, 7, 0, 0, 0, 11, 0, 0, 0, 120, 1, 0, 7, 0, 0, 0] y5) fun (y6 : Str) =>
 Option.bind (wire_Split y6 0) fun (y7 : (List api_Msg) × Str × Int) =>
 Option.bind (wire_Split [1, 1, 0, 0] 256) fun (y8 : (List api_Msg) × Str × Int) =>
 Option.bind (bif ((y1.1 == [11, 0, 0, 0, 120, 1, 0, 7, 0, 0, 0]) && (y1.2 == 0)) then 
 Option.bind (wire_Size (api_Msg.mk 120 1 7 0 0 0 0 [] [] [] [] [] (api_Qid.mk 0 0 0) 0 0 0 [] 0 0 [] (api_Dir.mk 0 0 (api_Qid.mk 0 0 0) 0 0 0 0 [] [] [] []) 0 0 0 [])) fun (y9 : Int) =>
 some (y9 == 11)
 else some false) fun (y10 : Bool) =>
 Option.bind (bif y10 then 
 Option.bind (ref08_Same y2.1 (api_Msg.mk 120 1 7 0 0 0 0 [] [] [] [] [] (api_Qid.mk 0 0 0) 0 0 0 [] 0 0 [] (api_Dir.mk 0 0 (api_Qid.mk 0 0 0) 0 0 0 0 [] [] [] []) 0 0 0 [])) fun (y11 : Bool) =>
 some y11
 else some false) fun (y12 : Bool) =>
 Option.bind (bif ((((y12 && (y2.2.1 == 11)) && (y2.2.2 == 0)) && (y4.2.2 == 3)) && ((y7.1.length : Int) == 2)) then 
 Option.bind (getI y7.1 1) fun (y13 : api_Msg) =>
 Option.bind (ref08_Same y13 (api_Msg.mk 120 1 7 0 0 0 0 [] [] [] [] [] (api_Qid.mk 0 0 0) 0 0 0 [] 0 0 [] (api_Dir.mk 0 0 (api_Qid.mk 0 0 0) 0 0 0 0 [] [] [] []) 0 0 0 [])) fun (y14 : Bool) =>
 some y14
 else some false) fun (y15 : Bool) =>
 Option.bind (bif y15 then 
 Option.bind (subI [11, 0, 0, 0, 120, 1, 0, 7, 0, 0, 0] 0 3) fun (y16 : Str) =>
 some (y7.2.1 == y16)
 else some false) fun (y17 : Bool) =>
 some (((y17 && (y7.2.2 == 0)) && (y8.2.2 == 19)))
def ref08_late (x0 : Int) : Option Str :=
 (bif (x0 == 118) then
 some ([84, 87, 114, 105, 116, 101])
 else
 (bif (x0 == 119) then
 some ([82, 87, 114, 105, 116, 101])
 else
 (bif (x0 == 120) then
 some ([84, 67, 108, 117, 110, 107])
 else
 (bif (x0 == 121) then
 some ([82, 67, 108, 117, 110, 107])
 else
 (bif (x0 == 122) then
 some ([84, 82, 101, 109, 111, 118, 101])
 else
 (bif (x0 == 123) then
 some ([82, 82, 101, 109, 111, 118, 101])
 else
 (bif (x0 == 124) then
 some ([84, 83, 116, 97, 116])
 else
 (bif (x0 == 125) then
 some ([82, 83, 116, 97, 116])
 else
 (bif (x0 == 126) then
 some ([84, 87, 115, 116, 97, 116])
 else
 (bif (x0 == 127) then
 some ([82, 87, 115, 116, 97, 116])
 else
 (bif (x0 == 128) then
 some ([84, 76, 101, 97, 115, 101])
 else
 (bif (x0 == 129) then
 some ([82, 76, 101, 97, 115, 101])
 else
 (bif (x0 == 130) then
 some ([84, 82, 101, 115, 117, 109, 101])
 else
 (bif (x0 == 131) then
 some ([82, 82, 101, 115, 117, 109, 101])
 else
 some ([])))))))))))))))
def ref08_Name (x0 : Int) : Option Str :=
 (bif (x0 == 100) then
 some ([84, 86, 101, 114, 115, 105, 111, 110])
 else
 (bif (x0 == 101) then
 some ([82, 86, 101, 114, 115, 105, 111, 110])
 else
 (bif (x0 == 102) then
 some ([84, 65, 117, 116, 104])
 else
 (bif (x0 == 103) then
 some ([82, 65, 117, 116, 104])
 else
 (bif (x0 == 104) then
 some ([84, 65, 116, 116, 97, 99, 104])
 else
 (bif (x0 == 105) then
 some ([82, 65, 116, 116, 97, 99, 104])
 else
 (bif (x0 == 107) then
 some ([82, 69, 114, 114, 111, 114])
 else
 (bif (x0 == 108) then
 some ([84, 70, 108, 117, 115, 104])
 else
 (bif (x0 == 109) then
 some ([82, 70, 108, 117, 115, 104])
 else
 (bif (x0 == 110) then
 some ([84, 87, 97, 108, 107])
 else
 (bif (x0 == 111) then
 some ([82, 87, 97, 108, 107])
 else
 (bif (x0 == 112) then
 some ([84, 79, 112, 101, 110])
 else
 (bif (x0 == 113) then
 some ([82, 79, 112, 101, 110])
 else
 (bif (x0 == 114) then
 some ([84, 67, 114, 101, 97, 116, 101])
 else
 (bif (x0 == 115) then
 some ([82, 67, 114, 101, 97, 116, 101])
 else
 (bif (x0 == 116) then
 some ([84, 82, 101, 97, 100])
 else
 (bif (x0 == 117) then
 some ([82, 82, 101, 97, 100])
 else
 Option.bind (ref08_late x0) fun (y1 : Str) =>
 some (y1))))))))))))))))))
def ref08_tag (x0 : api_Msg) : Option Int :=
 (bif (((((x0.Kind_ == 100) || (x0.Kind_ == 101)) && (x0.Tag_ != 65535)) || (decide (x0.Tag_ < 0))) || (decide (x0.Tag_ > 65535))) then
 some (5)
 else
 (bif (((!((x0.Kind_ == 100) || (x0.Kind_ == 101))) && (x0.Kind_ != 107)) && (decide (x0.Tag_ > 65534))) then
 some (5)
 else
 some (0)))
def ref08_Fields (x0 : Int) : Option Str :=
 (bif (x0 == 100) then
 some ([122, 118])
 else
 (bif (x0 == 101) then
 some ([122, 118, 83])
 else
 (bif (x0 == 102) then
 some ([97, 117, 116])
 else
 Option.bind (
 (bif (x0 == 103) then
 some (x0 == 103)
 else
 some (x0 == 105))
 ) fun (o1 : Bool) =>
 (bif o1 then
 some ([113])
 else
 (bif (x0 == 104) then
 some ([102, 97, 117, 116])
 else
 (bif (x0 == 107) then
 some ([69])
 else
 (bif (x0 == 108) then
 some ([111])
 else
 (bif (x0 == 110) then
 some ([102, 110, 78])
 else
 (bif (x0 == 111) then
 some ([81])
 else
 (bif (x0 == 112) then
 some ([102, 109])
 else
 Option.bind (
 (bif (x0 == 113) then
 some (x0 == 113)
 else
 some (x0 == 115))
 ) fun (o2 : Bool) =>
 (bif o2 then
 some ([113, 105])
 else
 (bif (x0 == 114) then
 some ([102, 101, 112, 109])
 else
 (bif (x0 == 116) then
 some ([102, 79, 99])
 else
 (bif (x0 == 117) then
 some ([100])
 else
 (bif (x0 == 118) then
 some ([102, 79, 100])
 else
 (bif (x0 == 119) then
 some ([99])
 else
 Option.bind (
 (bif (x0 == 120) then
 some (x0 == 120)
 else
 (bif (x0 == 122) then
 some (x0 == 122)
 else
 some (x0 == 124)))
 ) fun (o3 : Bool) =>
 (bif o3 then
 some ([102])
 else
 (bif (x0 == 125) then
 some ([115])
 else
 (bif (x0 == 126) then
 some ([102, 115])
 else
 (bif (x0 == 128) then
 some ([102, 108, 84])
 else
 (bif (x0 == 129) then
 some ([113, 108, 84])
 else
 (bif (x0 == 130) then
 some ([83])
 else
 some ([])))))))))))))))))))))))
def ref08_Uses_L1 (y1 : Str) (x1 : Int) (s2 : Int) : Option (Step Int (Out Unit Bool)) :=
 (bif (decide (s2 < (y1.length : Int))) then
 Option.bind (byteI y1 s2) fun (y3 : Int) =>
 (bif (y3 == x1) then
 some (.done (.ret (true)))
 else
 some (.next (w64 (s2 + 1))))
 else
 some (.done (.fall ())))
def ref08_Uses (x0 : Int) (x1 : Int) : Option Bool :=
 Option.bind (ref08_Fields x0) fun (y1 : Str) =>
 Option.bind (loopF (ref08_Uses_L1 y1 x1) BIG 0) fun (wo1 : Out Unit Bool) => match wo1 with
 | .ret r1 => some r1
 | .fall _ =>
 some (false)
def ref08_zeroLate (x0 : api_Msg) (x1 : Int) : Option Bool :=
 (bif (x1 == 79) then
 some ((x0.Offset_ == 0))
 else
 (bif (x1 == 99) then
 some ((x0.Count_ == 0))
 else
 (bif (x1 == 100) then
 some ((x0.Data_ == []))
 else
 (bif (x1 == 115) then
 some ((decide (x0.Stat_ = (api_Dir.mk 0 0 (api_Qid.mk 0 0 0) 0 0 0 0 [] [] [] []))))
 else
 (bif (x1 == 69) then
 some ((x0.Err_ == 0))
 else
 (bif (x1 == 108) then
 some ((x0.Lease_ == 0))
 else
 (bif (x1 == 84) then
 some ((x0.Term_ == 0))
 else
 some ((x0.Session_ == [])))))))))
def ref08_Zero (x0 : api_Msg) (x1 : Int) : Option Bool :=
 (bif (x1 == 102) then
 some ((x0.Fid_ == 0))
 else
 (bif (x1 == 110) then
 some ((x0.NewFid_ == 0))
 else
 (bif (x1 == 97) then
 some ((x0.AuthFid_ == 0))
 else
 (bif (x1 == 111) then
 some ((x0.OldTag_ == 0))
 else
 (bif (x1 == 122) then
 some ((x0.Msize_ == 0))
 else
 (bif (x1 == 118) then
 some ((x0.Version_ == []))
 else
 (bif (x1 == 117) then
 some ((x0.User_ == []))
 else
 (bif (x1 == 116) then
 some ((x0.Attach_ == []))
 else
 (bif (x1 == 78) then
 some (((x0.Names_.length : Int) == 0))
 else
 (bif (x1 == 81) then
 some (((x0.Qids_.length : Int) == 0))
 else
 (bif (x1 == 113) then
 some ((decide (x0.Qid_ = (api_Qid.mk 0 0 0))))
 else
 (bif (x1 == 105) then
 some ((x0.Iounit_ == 0))
 else
 (bif (x1 == 109) then
 some ((x0.Mode_ == 0))
 else
 (bif (x1 == 112) then
 some ((x0.Perm_ == 0))
 else
 (bif (x1 == 101) then
 some ((x0.Name_ == []))
 else
 Option.bind (ref08_zeroLate x0 x1) fun (y1 : Bool) =>
 some (y1))))))))))))))))
def ref08_number (x0 : Int) (x1 : Int) : Option Int :=
 (bif ((decide (x0 < 0)) || (decide (x0 > x1))) then
 some (5)
 else
 some (0))
def ref08_length (x0 : Str) (x1 : Int) : Option Int :=
 (bif (decide ((x0.length : Int) > x1)) then
 some (4)
 else
 some (0))
def ref03_Valid_L1 (x0 : Str) (s2 : Int) : Option (Step Int (Out Unit Bool)) :=
 (bif (decide (s2 < (x0.length : Int))) then
 Option.bind (byteI x0 s2) fun (y6 : Int) =>
 Option.bind (bif (decide (y6 < 33)) then some true else 
 Option.bind (byteI x0 s2) fun (y7 : Int) =>
 some (decide (y7 > 126))
 ) fun (y8 : Bool) =>
 Option.bind (bif y8 then some true else 
 Option.bind (byteI x0 s2) fun (y9 : Int) =>
 some (y9 == 47)
 ) fun (y10 : Bool) =>
 (bif y10 then
 some (.done (.ret (false)))
 else
 some (.next (w64 (s2 + 1))))
 else
 some (.done (.fall ())))
def ref03_Valid (x0 : Str) : Option Bool :=
 Option.bind (loopF (ref03_Valid_L1 x0) BIG 0) fun (wo1 : Out Unit Bool) => match wo1 with
 | .ret r1 => some r1
 | .fall _ =>
 some (((((decide ((x0.length : Int) ≥ 1)) && (decide ((x0.length : Int) ≤ 64))) && (!(x0 == [46]))) && (!(x0 == [46, 46]))))
def ref08_names_L1 (x0 : List Str) (s2 : Int) : Option (Step Int (Out Unit Int)) :=
 (bif (decide (s2 < (x0.length : Int))) then
 Option.bind (getI x0 s2) fun (y5 : Str) =>
 Option.bind (bif (!(y5 == [46, 46])) then 
 Option.bind (getI x0 s2) fun (y6 : Str) =>
 Option.bind (ref03_Valid y6) fun (y7 : Bool) =>
 some (!y7)
 else some false) fun (y8 : Bool) =>
 (bif y8 then
 some (.done (.ret (6)))
 else
 some (.next (w64 (s2 + 1))))
 else
 some (.done (.fall ())))
def ref08_names (x0 : List Str) : Option Int :=
 (bif (decide ((x0.length : Int) > 16)) then
 some (4)
 else
 Option.bind (loopF (ref08_names_L1 x0) BIG 0) fun (wo1 : Out Unit Int) => match wo1 with
 | .ret r1 => some r1
 | .fall _ =>
 some (0))
def ref08_qid (x0 : api_Qid) : Option Int :=
 (bif ((((((((decide (x0.Type_ < 0)) || (decide (x0.Type_ > 255))) || ((x0.Type_.tmod 8) != 0)) || (((IntKind.i64.wrap (x0.Type_.tdiv 16)).tmod 2) != 0)) || (decide (x0.Vers_ < 0))) || (decide (x0.Vers_ > 2147483647))) || (decide (x0.Path_ < 0))) || (decide (x0.Path_ > 1099511627776))) then
 some (5)
 else
 some (0))
def ref08_qids_L1 (x0 : List api_Qid) (s2 : Int) : Option (Step Int (Out Unit Int)) :=
 (bif (decide (s2 < (x0.length : Int))) then
 Option.bind (getI x0 s2) fun (y3 : api_Qid) =>
 Option.bind (ref08_qid y3) fun (y4 : Int) =>
 (bif (y4 != 0) then
 some (.done (.ret (y4)))
 else
 some (.next (w64 (s2 + 1))))
 else
 some (.done (.fall ())))
def ref08_qids (x0 : List api_Qid) : Option Int :=
 (bif (decide ((x0.length : Int) > 16)) then
 some (4)
 else
 Option.bind (loopF (ref08_qids_L1 x0) BIG 0) fun (wo1 : Out Unit Int) => match wo1 with
 | .ret r1 => some r1
 | .fall _ =>
 some (0))
def ref07_sum (x0 : Int) (x1 : Int) : Option Bool :=
 some (((x0 == (-1)) || ((decide (x0 ≥ 0)) && ((andI .i64 x0 x1) == x0))))
def ref07_in (x0 : Int) (x1 : Int) : Option Bool :=
 some (((x0 == (-1)) || ((decide (x0 ≥ 0)) && (decide (x0 ≤ x1)))))
def ref07_Numbers (x0 : api_Dir) : Option Bool :=
 Option.bind (ref07_sum x0.Qid_.Type_ 232) fun (y1 : Bool) =>
 Option.bind (bif y1 then 
 Option.bind (ref07_in x0.Qid_.Vers_ 2147483647) fun (y2 : Bool) =>
 some y2
 else some false) fun (y3 : Bool) =>
 Option.bind (bif y3 then 
 Option.bind (ref07_in x0.Qid_.Path_ 1099511627776) fun (y4 : Bool) =>
 some y4
 else some false) fun (y5 : Bool) =>
 Option.bind (ref07_sum x0.Mode_ 3892314623) fun (y6 : Bool) =>
 Option.bind (ref07_in x0.Type_ 65534) fun (y7 : Bool) =>
 Option.bind (bif y7 then 
 Option.bind (ref07_in x0.Dev_ 4294967294) fun (y8 : Bool) =>
 some y8
 else some false) fun (y9 : Bool) =>
 Option.bind (bif ((y9 && y5) && y6) then 
 Option.bind (ref07_in x0.Atime_ 1099511627776) fun (y10 : Bool) =>
 some y10
 else some false) fun (y11 : Bool) =>
 Option.bind (bif y11 then 
 Option.bind (ref07_in x0.Mtime_ 1099511627776) fun (y12 : Bool) =>
 some y12
 else some false) fun (y13 : Bool) =>
 Option.bind (bif y13 then 
 Option.bind (ref07_in x0.Length_ 9007199254740991) fun (y14 : Bool) =>
 some y14
 else some false) fun (y15 : Bool) =>
 some (y15)
def ref07_Check (x0 : api_Dir) : Option Int :=
 Option.bind (ref07_Numbers x0) fun (y1 : Bool) =>
 (bif (!y1) then
 some (5)
 else
 Option.bind (bif ((!(x0.Name_ == [])) && (!(x0.Name_ == [47]))) then 
 Option.bind (ref03_Valid x0.Name_) fun (y2 : Bool) =>
 some (!y2)
 else some false) fun (y3 : Bool) =>
 (bif (((y3 || (decide ((x0.Uid_.length : Int) > 64))) || (decide ((x0.Gid_.length : Int) > 64))) || (decide ((x0.Muid_.length : Int) > 64))) then
 some (6)
 else
 some (0)))
def ref08_faultLate (x0 : api_Msg) (x1 : Int) : Option Int :=
 (bif (x1 == 109) then
 Option.bind (ref08_number x0.Mode_ 255) fun (y1 : Int) =>
 some (y1)
 else
 (bif (x1 == 112) then
 Option.bind (ref08_number x0.Perm_ 4294967295) fun (y2 : Int) =>
 some (y2)
 else
 (bif (x1 == 101) then
 Option.bind (ref03_Valid x0.Name_) fun (y3 : Bool) =>
 (bif (!y3) then
 some (6)
 else
 some (0))
 else
 (bif (x1 == 79) then
 Option.bind (ref08_number x0.Offset_ 9007199254740991) fun (y4 : Int) =>
 some (y4)
 else
 (bif (x1 == 99) then
 Option.bind (ref08_number x0.Count_ 8192) fun (y5 : Int) =>
 some (y5)
 else
 (bif (x1 == 100) then
 Option.bind (ref08_length x0.Data_ 8168) fun (y6 : Int) =>
 some (y6)
 else
 (bif (x1 == 115) then
 Option.bind (ref07_Check x0.Stat_) fun (y7 : Int) =>
 some (y7)
 else
 (bif (x1 == 69) then
 (bif ((decide (x0.Err_ < 1)) || (decide (x0.Err_ > 59))) then
 some (5)
 else
 some (0))
 else
 (bif (x1 == 108) then
 Option.bind (ref08_number x0.Lease_ 2) fun (y8 : Int) =>
 some (y8)
 else
 (bif (x1 == 84) then
 Option.bind (ref08_number x0.Term_ 1048576) fun (y9 : Int) =>
 some (y9)
 else
 Option.bind (ref08_length x0.Session_ 64) fun (y10 : Int) =>
 some (y10)))))))))))
def ref08_fault (x0 : api_Msg) (x1 : Int) : Option Int :=
 (bif (x1 == 102) then
 Option.bind (ref08_number x0.Fid_ 4294967294) fun (y1 : Int) =>
 some (y1)
 else
 (bif (x1 == 110) then
 Option.bind (ref08_number x0.NewFid_ 4294967294) fun (y2 : Int) =>
 some (y2)
 else
 (bif (x1 == 97) then
 (bif (x0.Kind_ == 102) then
 Option.bind (ref08_number x0.AuthFid_ 4294967294) fun (y3 : Int) =>
 some (y3)
 else
 Option.bind (ref08_number x0.AuthFid_ 4294967295) fun (y4 : Int) =>
 some (y4))
 else
 (bif (x1 == 111) then
 Option.bind (ref08_number x0.OldTag_ 65534) fun (y5 : Int) =>
 some (y5)
 else
 (bif (x1 == 122) then
 Option.bind (ref08_number x0.Msize_ 4294967295) fun (y6 : Int) =>
 some (y6)
 else
 (bif (x1 == 118) then
 Option.bind (ref08_length x0.Version_ 64) fun (y7 : Int) =>
 some (y7)
 else
 (bif (x1 == 117) then
 Option.bind (ref08_length x0.User_ 32) fun (y8 : Int) =>
 some (y8)
 else
 (bif (x1 == 116) then
 Option.bind (ref08_length x0.Attach_ 1024) fun (y9 : Int) =>
 some (y9)
 else
 (bif (x1 == 78) then
 Option.bind (ref08_names x0.Names_) fun (y10 : Int) =>
 some (y10)
 else
 (bif (x1 == 81) then
 Option.bind (ref08_qids x0.Qids_) fun (y11 : Int) =>
 some (y11)
 else
 (bif (x1 == 113) then
 Option.bind (ref08_qid x0.Qid_) fun (y12 : Int) =>
 some (y12)
 else
 (bif (x1 == 105) then
 Option.bind (ref08_number x0.Iounit_ 8192) fun (y13 : Int) =>
 some (y13)
 else
 Option.bind (ref08_faultLate x0 x1) fun (y14 : Int) =>
 some (y14)))))))))))))
def ref08_Check_L1 (x0 : api_Msg) (s2 : Int) : Option (Step Int (Out Unit Int)) :=
 (bif (decide (s2 < 23)) then
 Option.bind (byteI [102, 110, 97, 111, 122, 118, 117, 116, 78, 81, 113, 105, 109, 112, 101, 79, 99, 100, 115, 69, 108, 84, 83] s2) fun (y8 : Int) =>
 Option.bind (ref08_Uses x0.Kind_ y8) fun (y9 : Bool) =>
 Option.bind (bif (!y9) then 
 Option.bind (byteI [102, 110, 97, 111, 122, 118, 117, 116, 78, 81, 113, 105, 109, 112, 101, 79, 99, 100, 115, 69, 108, 84, 83] s2) fun (y10 : Int) =>
 Option.bind (ref08_Zero x0 y10) fun (y11 : Bool) =>
 some (!y11)
 else some false) fun (y12 : Bool) =>
 (bif y12 then
 some (.done (.ret (2)))
 else
 some (.next (w64 (s2 + 1))))
 else
 some (.done (.fall ())))
def ref08_Check_L2 (y13 : Str) (x0 : api_Msg) (s4 : Int) : Option (Step Int (Out Unit Int)) :=
 (bif (decide (s4 < (y13.length : Int))) then
 Option.bind (byteI y13 s4) fun (y16 : Int) =>
 Option.bind (ref08_fault x0 y16) fun (y17 : Int) =>
 (bif (y17 != 0) then
 some (.done (.ret (y17)))
 else
 some (.next (w64 (s4 + 1))))
 else
 some (.done (.fall ())))
def ref08_Check (x0 : api_Msg) : Option Int :=
 Option.bind (ref08_Name x0.Kind_) fun (y1 : Str) =>
 (bif (y1 == []) then
 some (2)
 else
 Option.bind (ref08_tag x0) fun (y2 : Int) =>
 (bif (y2 != 0) then
 some (y2)
 else
 Option.bind (loopF (ref08_Check_L1 x0) BIG 0) fun (wo1 : Out Unit Int) => match wo1 with
 | .ret r1 => some r1
 | .fall _ =>
 Option.bind (ref08_Fields x0.Kind_) fun (y13 : Str) =>
 Option.bind (loopF (ref08_Check_L2 y13 x0) BIG 0) fun (wo2 : Out Unit Int) => match wo2 with
 | .ret r2 => some r2
 | .fall _ =>
 some (0)))
def ref09_Fields (x0 : Int) : Option ((List Int) × Bool) :=
 (bif (x0 == 100) then
 some (([1, 2], true))
 else
 (bif (x0 == 101) then
 some (([1, 2, 3], true))
 else
 (bif (x0 == 102) then
 some (([4, 5, 6], true))
 else
 Option.bind (
 (bif (x0 == 103) then
 some (x0 == 103)
 else
 some (x0 == 105))
 ) fun (o1 : Bool) =>
 (bif o1 then
 some (([7], true))
 else
 (bif (x0 == 104) then
 some (([8, 4, 5, 6], true))
 else
 (bif (x0 == 107) then
 some (([9], true))
 else
 (bif (x0 == 108) then
 some (([10], true))
 else
 (bif (x0 == 110) then
 some (([8, 11, 12], true))
 else
 (bif (x0 == 111) then
 some (([13], true))
 else
 (bif (x0 == 112) then
 some (([8, 14], true))
 else
 Option.bind (
 (bif (x0 == 113) then
 some (x0 == 113)
 else
 some (x0 == 115))
 ) fun (o2 : Bool) =>
 (bif o2 then
 some (([7, 15], true))
 else
 (bif (x0 == 114) then
 some (([8, 16, 17, 14], true))
 else
 (bif (x0 == 116) then
 some (([8, 18, 19], true))
 else
 (bif (x0 == 117) then
 some (([20], true))
 else
 (bif (x0 == 118) then
 some (([8, 18, 20], true))
 else
 (bif (x0 == 119) then
 some (([19], true))
 else
 Option.bind (
 (bif (x0 == 120) then
 some (x0 == 120)
 else
 (bif (x0 == 122) then
 some (x0 == 122)
 else
 some (x0 == 124)))
 ) fun (o3 : Bool) =>
 (bif o3 then
 some (([8], true))
 else
 (bif (x0 == 125) then
 some (([21], true))
 else
 (bif (x0 == 126) then
 some (([8, 21], true))
 else
 (bif (x0 == 128) then
 some (([8, 22, 23], true))
 else
 (bif (x0 == 129) then
 some (([7, 22, 23], true))
 else
 (bif (x0 == 130) then
 some (([3], true))
 else
 Option.bind (
 (bif (x0 == 109) then
 some (x0 == 109)
 else
 (bif (x0 == 121) then
 some (x0 == 121)
 else
 (bif (x0 == 123) then
 some (x0 == 123)
 else
 (bif (x0 == 127) then
 some (x0 == 127)
 else
 some (x0 == 131)))))
 ) fun (o4 : Bool) =>
 (bif o4 then
 some (([], true))
 else
 some (([], false)))))))))))))))))))))))))
def ref02_valid (x0 : Int) : Option Bool :=
 some (((decide (x0 ≥ 1)) && (decide (x0 ≤ 8))))
def ref02_Put_L1 (x1 : Int) (s2 : Str × Int × Int) : Option (Step (Str × Int × Int) (Str × Int)) :=
 (bif ((decide (s2.2.2 < x1)) && (decide (s2.2.1 ≥ 0))) then
 Option.bind (cat s2.1 (bytesS [(IntKind.u8.wrap (s2.2.1.tmod 256))])) fun (y3 : Str) =>
 some (.next (y3, (IntKind.i64.wrap (s2.2.1.tdiv 256)), (w64 (s2.2.2 + 1))))
 else
 some (.done (s2.1, s2.2.1)))
def ref02_Put (x0 : Int) (x1 : Int) : Option (Str × Int) :=
 Option.bind (ref02_valid x1) fun (y1 : Bool) =>
 (bif (!y1) then
 some (([], 1))
 else
 Option.bind (loopF (ref02_Put_L1 x1) BIG ([], x0, 0)) fun (o1 : Str × Int) =>
 (bif (o1.2 != 0) then
 some (([], 5))
 else
 some ((o1.1, 0))))
def ref09_num (x0 : ref09_Out) (x1 : Int) (x2 : Int) : Option ref09_Out :=
 Option.bind (ref02_Put x1 x2) fun (y1 : Str × Int) =>
 Option.bind (
 (bif (x0.E_ == 0) then
 Option.bind (cat x0.S_ y1.1) fun (y2 : Str) =>
 some (ref09_Out.mk y2 y1.2)
 else
 some x0)
 ) fun (o1 : ref09_Out) =>
 some (o1)
def ref02_PutText (x0 : Str) : Option (Str × Int) :=
 Option.bind (ref02_Put (x0.length : Int) 2) fun (y1 : Str × Int) =>
 (bif (y1.2 != 0) then
 some (([], 4))
 else
 Option.bind (cat y1.1 x0) fun (y2 : Str) =>
 some ((y2, 0)))
def ref09_text (x0 : ref09_Out) (x1 : Str) : Option ref09_Out :=
 Option.bind (ref02_PutText x1) fun (y1 : Str × Int) =>
 Option.bind (
 (bif (x0.E_ == 0) then
 Option.bind (cat x0.S_ y1.1) fun (y2 : Str) =>
 some (ref09_Out.mk y2 y1.2)
 else
 some x0)
 ) fun (o1 : ref09_Out) =>
 some (o1)
def ref09_qid (x0 : ref09_Out) (x1 : api_Qid) : Option ref09_Out :=
 Option.bind (ref09_num x0 x1.Type_ 1) fun (y1 : ref09_Out) =>
 Option.bind (ref09_num y1 x1.Vers_ 4) fun (y2 : ref09_Out) =>
 Option.bind (ref09_num y2 x1.Path_ 8) fun (y3 : ref09_Out) =>
 some (y3)
def ref04_texts  : Option (List Str) :=
 some ([[], [105, 110, 118, 97, 108, 105, 100, 32, 97, 114, 103, 117, 109, 101, 110, 116], [109, 97, 108, 102, 111, 114, 109, 101, 100, 32, 100, 97, 116, 97], [100, 97, 116, 97, 32, 116, 111, 111, 32, 115, 104, 111, 114, 116], [100, 97, 116, 97, 32, 116, 111, 111, 32, 108, 111, 110, 103], [110, 117, 109, 98, 101, 114, 32, 111, 117, 116, 32, 111, 102, 32, 114, 97, 110, 103, 101], [105, 110, 118, 97, 108, 105, 100, 32, 110, 97, 109, 101], [102, 105, 108, 101, 32, 97, 108, 114, 101, 97, 100, 121, 32, 101, 120, 105, 115, 116, 115], [102, 105, 108, 101, 32, 100, 111, 101, 115, 32, 110, 111, 116, 32, 101, 120, 105, 115, 116], [110, 111, 116, 32, 97, 32, 100, 105, 114, 101, 99, 116, 111, 114, 121], [102, 105, 108, 101, 32, 105, 115, 32, 97, 32, 100, 105, 114, 101, 99, 116, 111, 114, 121], [112, 101, 114, 109, 105, 115, 115, 105, 111, 110, 32, 100, 101, 110, 105, 101, 100], [105, 110, 118, 97, 108, 105, 100, 32, 111, 112, 101, 110, 32, 109, 111, 100, 101], [117, 110, 107, 110, 111, 119, 110, 32, 102, 105, 100], [102, 105, 100, 32, 105, 110, 32, 117, 115, 101], [102, 105, 108, 101, 32, 105, 115, 32, 111, 112, 101, 110], [102, 105, 108, 101, 32, 105, 115, 32, 110, 111, 116, 32, 111, 112, 101, 110], [116, 97, 103, 32, 105, 110, 32, 117, 115, 101], [110, 111, 32, 118, 101, 114, 115, 105, 111, 110, 32, 110, 101, 103, 111, 116, 105, 97, 116, 101, 100], [105, 110, 118, 97, 108, 105, 100, 32, 109, 101, 115, 115, 97, 103, 101, 32, 115, 105, 122, 101], [105, 110, 118, 97, 108, 105, 100, 32, 111, 102, 102, 115, 101, 116], [113, 117, 111, 116, 97, 32, 101, 120, 99, 101, 101, 100, 101, 100], [108, 105, 109, 105, 116, 32, 114, 101, 97, 99, 104, 101, 100], [100, 105, 114, 101, 99, 116, 111, 114, 121, 32, 105, 115, 32, 110, 111, 116, 32, 101, 109, 112, 116, 121], [101, 120, 99, 108, 117, 115, 105, 118, 101, 32, 117, 115, 101, 32, 102, 105, 108, 101, 32, 105, 115, 32, 111, 112, 101, 110], [117, 110, 107, 110, 111, 119, 110, 32, 117, 115, 101, 114], [110, 111, 116, 32, 97, 32, 109, 101, 109, 98, 101, 114, 32, 111, 102, 32, 116, 104, 101, 32, 103, 114, 111, 117, 112], [97, 116, 116, 114, 105, 98, 117, 116, 101, 115, 32, 99, 97, 110, 110, 111, 116, 32, 98, 101, 32, 99, 104, 97, 110, 103, 101, 100], [97, 117, 116, 104, 101, 110, 116, 105, 99, 97, 116, 105, 111, 110, 32, 102, 97, 105, 108, 101, 100], [97, 117, 116, 104, 101, 110, 116, 105, 99, 97, 116, 105, 111, 110, 32, 105, 115, 32, 110, 111, 116, 32, 114, 101, 113, 117, 105, 114, 101, 100], [99, 111, 110, 110, 101, 99, 116, 105, 111, 110, 32, 105, 115, 32, 100, 111, 119, 110], [115, 101, 115, 115, 105, 111, 110, 32, 100, 111, 101, 115, 32, 110, 111, 116, 32, 101, 120, 105, 115, 116], [108, 101, 97, 115, 101, 32, 100, 111, 101, 115, 32, 110, 111, 116, 32, 101, 120, 105, 115, 116], [102, 105, 108, 101, 32, 115, 121, 115, 116, 101, 109, 32, 105, 115, 32, 114, 101, 97, 100, 32, 111, 110, 108, 121], [98, 108, 111, 99, 107, 32, 105, 115, 32, 99, 111, 114, 114, 117, 112, 116], [110, 111, 32, 98, 108, 111, 99, 107, 32, 119, 105, 116, 104, 32, 116, 104, 105, 115, 32, 115, 99, 111, 114, 101], [105, 110, 118, 97, 108, 105, 100, 32, 100, 105, 97, 108, 32, 115, 116, 114, 105, 110, 103], [117, 110, 107, 110, 111, 119, 110, 32, 110, 101, 116, 119, 111, 114, 107], [117, 110, 107, 110, 111, 119, 110, 32, 104, 111, 115, 116], [117, 110, 107, 110, 111, 119, 110, 32, 115, 101, 114, 118, 105, 99, 101], [99, 111, 110, 110, 101, 99, 116, 105, 111, 110, 32, 114, 101, 102, 117, 115, 101, 100], [97, 100, 100, 114, 101, 115, 115, 32, 105, 110, 32, 117, 115, 101], [112, 114, 111, 99, 101, 115, 115, 32, 100, 111, 101, 115, 32, 110, 111, 116, 32, 101, 120, 105, 115, 116], [110, 111, 116, 32, 112, 111, 115, 115, 105, 98, 108, 101, 32, 105, 110, 32, 116, 104, 105, 115, 32, 115, 116, 97, 116, 101], [110, 111, 116, 32, 97, 110, 32, 111, 112, 101, 110, 32, 102, 105, 108, 101, 32, 100, 101, 115, 99, 114, 105, 112, 116, 111, 114], [110, 111, 116, 104, 105, 110, 103, 32, 105, 115, 32, 109, 111, 117, 110, 116, 101, 100, 32, 116, 104, 101, 114, 101], [99, 114, 101, 97, 116, 105, 111, 110, 32, 105, 115, 32, 110, 111, 116, 32, 112, 101, 114, 109, 105, 116, 116, 101, 100], [115, 121, 110, 116, 97, 120, 32, 101, 114, 114, 111, 114], [109, 105, 115, 115, 105, 110, 103, 32, 113, 117, 111, 116, 101], [109, 97, 108, 102, 111, 114, 109, 101, 100, 32, 114, 101, 103, 117, 108, 97, 114, 32, 101, 120, 112, 114, 101, 115, 115, 105, 111, 110], [109, 97, 108, 102, 111, 114, 109, 101, 100, 32, 114, 117, 108, 101], [117, 110, 107, 110, 111, 119, 110, 32, 112, 111, 114, 116], [110, 111, 32, 107, 101, 121, 32, 109, 97, 116, 99, 104, 101, 115], [112, 114, 111, 116, 111, 99, 111, 108, 32, 105, 115, 32, 111, 117, 116, 32, 111, 102, 32, 112, 104, 97, 115, 101], [117, 110, 107, 110, 111, 119, 110, 32, 99, 111, 110, 116, 114, 111, 108, 32, 114, 101, 113, 117, 101, 115, 116], [111, 116, 104, 101, 114, 32, 101, 110, 100, 32, 105, 115, 32, 99, 108, 111, 115, 101, 100], [114, 101, 113, 117, 101, 115, 116, 32, 119, 97, 115, 32, 102, 108, 117, 115, 104, 101, 100], [115, 116, 101, 112, 32, 108, 105, 109, 105, 116, 32, 114, 101, 97, 99, 104, 101, 100], [117, 110, 107, 110, 111, 119, 110, 32, 99, 111, 109, 109, 97, 110, 100], [99, 111, 109, 109, 97, 110, 100, 32, 102, 97, 105, 108, 101, 100]])
def ref04_Text (x0 : Int) : Option Str :=
 (bif ((decide (x0 < 1)) || (decide (x0 > 59))) then
 some ([])
 else
 Option.bind (ref04_texts) fun (y1 : (List Str)) =>
 Option.bind (getI y1 x0) fun (y2 : Str) =>
 some (y2))
def ref07_little_L1 (x1 : Int) (x0 : Int) (s2 : Str × Int) : Option (Step (Str × Int) Str) :=
 (bif (decide (s2.2 < x1)) then
 Option.bind (shrI .i64 x0 (w64 (8 * s2.2))) fun (y3 : Int) =>
 Option.bind (cat s2.1 (bytesS [(IntKind.u8.wrap y3)])) fun (y4 : Str) =>
 some (.next (y4, (w64 (s2.2 + 1))))
 else
 some (.done s2.1))
def ref07_little (x0 : Int) (x1 : Int) : Option Str :=
 Option.bind (loopF (ref07_little_L1 x1 x0) BIG ([], 0)) fun (o1 : Str) =>
 some (o1)
def ref07_counted (x0 : Str) : Option Str :=
 Option.bind (ref07_little (x0.length : Int) 2) fun (y1 : Str) =>
 Option.bind (cat y1 x0) fun (y2 : Str) =>
 some (y2)
def ref07_Put (x0 : api_Dir) : Option (Str × Int) :=
 Option.bind (ref07_Check x0) fun (y1 : Int) =>
 (bif (y1 != 0) then
 some (([], y1))
 else
 Option.bind (ref07_little x0.Qid_.Type_ 1) fun (y2 : Str) =>
 Option.bind (ref07_little x0.Qid_.Vers_ 4) fun (y3 : Str) =>
 Option.bind (cat y2 y3) fun (y4 : Str) =>
 Option.bind (ref07_little x0.Qid_.Path_ 8) fun (y5 : Str) =>
 Option.bind (cat y4 y5) fun (y6 : Str) =>
 Option.bind (ref07_little x0.Type_ 2) fun (y7 : Str) =>
 Option.bind (ref07_little x0.Dev_ 4) fun (y8 : Str) =>
 Option.bind (cat y7 y8) fun (y9 : Str) =>
 Option.bind (cat y9 y6) fun (y10 : Str) =>
 Option.bind (ref07_little x0.Mode_ 4) fun (y11 : Str) =>
 Option.bind (cat y10 y11) fun (y12 : Str) =>
 Option.bind (ref07_little x0.Atime_ 8) fun (y13 : Str) =>
 Option.bind (cat y12 y13) fun (y14 : Str) =>
 Option.bind (ref07_little x0.Mtime_ 8) fun (y15 : Str) =>
 Option.bind (cat y14 y15) fun (y16 : Str) =>
 Option.bind (ref07_little x0.Length_ 8) fun (y17 : Str) =>
 Option.bind (cat y16 y17) fun (y18 : Str) =>
 Option.bind (ref07_counted x0.Name_) fun (y19 : Str) =>
 Option.bind (cat y18 y19) fun (y20 : Str) =>
 Option.bind (ref07_counted x0.Uid_) fun (y21 : Str) =>
 Option.bind (cat y20 y21) fun (y22 : Str) =>
 Option.bind (ref07_counted x0.Gid_) fun (y23 : Str) =>
 Option.bind (cat y22 y23) fun (y24 : Str) =>
 Option.bind (ref07_counted x0.Muid_) fun (y25 : Str) =>
 Option.bind (cat y24 y25) fun (y26 : Str) =>
 Option.bind (ref07_little (y26.length : Int) 2) fun (y27 : Str) =>
 Option.bind (cat y27 y26) fun (y28 : Str) =>
 some ((y28, 0)))
def ref09_list_L1 (x1 : api_Msg) (s2 : Int × ref09_Out) : Option (Step (Int × ref09_Out) ref09_Out) :=
 (bif (decide (s2.1 < (x1.Names_.length : Int))) then
 Option.bind (getI x1.Names_ s2.1) fun (y4 : Str) =>
 Option.bind (ref09_text s2.2 y4) fun (y5 : ref09_Out) =>
 some (.next ((w64 (s2.1 + 1)), y5))
 else
 some (.done s2.2))
def ref09_list_L2 (x1 : api_Msg) (s4 : Int × ref09_Out) : Option (Step (Int × ref09_Out) ref09_Out) :=
 (bif (decide (s4.1 < (x1.Qids_.length : Int))) then
 Option.bind (getI x1.Qids_ s4.1) fun (y9 : api_Qid) =>
 Option.bind (ref09_qid s4.2 y9) fun (y10 : ref09_Out) =>
 some (.next ((w64 (s4.1 + 1)), y10))
 else
 some (.done s4.2))
def ref09_list (x0 : ref09_Out) (x1 : api_Msg) (x2 : Int) : Option ref09_Out :=
 Option.bind (
 (bif (x2 == 12) then
 Option.bind (ref09_num x0 (x1.Names_.length : Int) 2) fun (y1 : ref09_Out) =>
 Option.bind (loopF (ref09_list_L1 x1) BIG (0, y1)) fun (o1 : ref09_Out) =>
 some o1
 else
 (bif (x2 == 13) then
 Option.bind (ref09_num x0 (x1.Qids_.length : Int) 2) fun (y6 : ref09_Out) =>
 Option.bind (loopF (ref09_list_L2 x1) BIG (0, y6)) fun (o2 : ref09_Out) =>
 some o2
 else
 (bif (x2 == 20) then
 Option.bind (ref09_num x0 (x1.Data_.length : Int) 4) fun (y11 : ref09_Out) =>
 Option.bind (cat y11.S_ x1.Data_) fun (y12 : Str) =>
 some (ref09_Out.mk y12 y11.E_)
 else
 (bif (x2 == 21) then
 Option.bind (ref07_Put x1.Stat_) fun (y13 : Str × Int) =>
 Option.bind (
 (bif ((x0.E_ == 0) && (y13.2 != 0)) then
 some (ref09_Out.mk x0.S_ y13.2)
 else
 some x0)
 ) fun (o3 : ref09_Out) =>
 Option.bind (ref09_num o3 (y13.1.length : Int) 2) fun (y14 : ref09_Out) =>
 Option.bind (cat y14.S_ y13.1) fun (y15 : Str) =>
 some (ref09_Out.mk y15 y14.E_)
 else
 some x0))))
 ) fun (o4 : ref09_Out) =>
 some (o4)
def ref09_field (x0 : ref09_Out) (x1 : api_Msg) (x2 : Int) : Option ref09_Out :=
 (bif (x2 == 1) then
 Option.bind (ref09_num x0 x1.Msize_ 4) fun (y1 : ref09_Out) =>
 some (y1)
 else
 (bif (x2 == 2) then
 Option.bind (ref09_text x0 x1.Version_) fun (y2 : ref09_Out) =>
 some (y2)
 else
 (bif (x2 == 3) then
 Option.bind (ref09_text x0 x1.Session_) fun (y3 : ref09_Out) =>
 some (y3)
 else
 (bif (x2 == 4) then
 Option.bind (ref09_num x0 x1.AuthFid_ 4) fun (y4 : ref09_Out) =>
 some (y4)
 else
 (bif (x2 == 5) then
 Option.bind (ref09_text x0 x1.User_) fun (y5 : ref09_Out) =>
 some (y5)
 else
 (bif (x2 == 6) then
 Option.bind (ref09_text x0 x1.Attach_) fun (y6 : ref09_Out) =>
 some (y6)
 else
 (bif (x2 == 7) then
 Option.bind (ref09_qid x0 x1.Qid_) fun (y7 : ref09_Out) =>
 some (y7)
 else
 (bif (x2 == 8) then
 Option.bind (ref09_num x0 x1.Fid_ 4) fun (y8 : ref09_Out) =>
 some (y8)
 else
 (bif (x2 == 9) then
 Option.bind (ref04_Text x1.Err_) fun (y9 : Str) =>
 Option.bind (ref09_text x0 y9) fun (y10 : ref09_Out) =>
 some (y10)
 else
 (bif (x2 == 10) then
 Option.bind (ref09_num x0 x1.OldTag_ 2) fun (y11 : ref09_Out) =>
 some (y11)
 else
 (bif (x2 == 11) then
 Option.bind (ref09_num x0 x1.NewFid_ 4) fun (y12 : ref09_Out) =>
 some (y12)
 else
 (bif (x2 == 14) then
 Option.bind (ref09_num x0 x1.Mode_ 1) fun (y13 : ref09_Out) =>
 some (y13)
 else
 (bif (x2 == 15) then
 Option.bind (ref09_num x0 x1.Iounit_ 4) fun (y14 : ref09_Out) =>
 some (y14)
 else
 (bif (x2 == 16) then
 Option.bind (ref09_text x0 x1.Name_) fun (y15 : ref09_Out) =>
 some (y15)
 else
 (bif (x2 == 17) then
 Option.bind (ref09_num x0 x1.Perm_ 4) fun (y16 : ref09_Out) =>
 some (y16)
 else
 (bif (x2 == 18) then
 Option.bind (ref09_num x0 x1.Offset_ 8) fun (y17 : ref09_Out) =>
 some (y17)
 else
 (bif (x2 == 19) then
 Option.bind (ref09_num x0 x1.Count_ 4) fun (y18 : ref09_Out) =>
 some (y18)
 else
 (bif (x2 == 22) then
 Option.bind (ref09_num x0 x1.Lease_ 1) fun (y19 : ref09_Out) =>
 some (y19)
 else
 (bif (x2 == 23) then
 Option.bind (ref09_num x0 x1.Term_ 4) fun (y20 : ref09_Out) =>
 some (y20)
 else
 Option.bind (ref09_list x0 x1 x2) fun (y21 : ref09_Out) =>
 some (y21))))))))))))))))))))
def ref09_Put_L1 (y2 : (List Int) × Bool) (x0 : api_Msg) (s2 : Int × ref09_Out) : Option (Step (Int × ref09_Out) ref09_Out) :=
 (bif (decide (s2.1 < (y2.1.length : Int))) then
 Option.bind (getI y2.1 s2.1) fun (y7 : Int) =>
 Option.bind (ref09_field s2.2 x0 y7) fun (y8 : ref09_Out) =>
 some (.next ((w64 (s2.1 + 1)), y8))
 else
 some (.done s2.2))
def ref09_Put (x0 : api_Msg) : Option (Str × Int) :=
 Option.bind (ref08_Check x0) fun (y1 : Int) =>
 (bif (y1 != 0) then
 some (([], y1))
 else
 Option.bind (ref09_Fields x0.Kind_) fun (y2 : (List Int) × Bool) =>
 Option.bind (ref09_num (ref09_Out.mk [] 0) x0.Kind_ 1) fun (y3 : ref09_Out) =>
 Option.bind (ref09_num y3 x0.Tag_ 2) fun (y4 : ref09_Out) =>
 Option.bind (loopF (ref09_Put_L1 y2 x0) BIG (0, y4)) fun (o1 : ref09_Out) =>
 (bif (o1.E_ != 0) then
 some (([], o1.E_))
 else
 (bif (decide ((w64 ((o1.S_.length : Int) + 4)) > 8192)) then
 some (([], 4))
 else
 Option.bind (ref02_Put (w64 ((o1.S_.length : Int) + 4)) 4) fun (y9 : Str × Int) =>
 Option.bind (cat y9.1 o1.S_) fun (y10 : Str) =>
 some ((y10, 0)))))
def ref09_Size (x0 : api_Msg) : Option Int :=
 Option.bind (ref09_Put x0) fun (y1 : Str × Int) =>
 some ((y1.1.length : Int))
def law09_WirePuts (x0 : api_Msg) : Option Bool :=
 Option.bind (law09_small x0) fun (y1 : Bool) =>
 (bif (!y1) then
 Option.bind (law09_alive) fun (y2 : Bool) =>
 some (y2)
 else
 Option.bind (wire_Put x0) fun (y3 : Str × Int) =>
 Option.bind (ref09_Put x0) fun (y4 : Str × Int) =>
 Option.bind (bif ((y3.1 == y4.1) && (y3.2 == y4.2)) then 
 Option.bind (wire_Size x0) fun (y5 : Int) =>
 Option.bind (ref09_Size x0) fun (y6 : Int) =>
 some (y5 == y6)
 else some false) fun (y7 : Bool) =>
 Option.bind (bif y7 then 
 Option.bind (law09_alive) fun (y8 : Bool) =>
 some y8
 else some false) fun (y9 : Bool) =>
 some (y9))
def ref02_Get_L1 (x0 : Str) (x1 : Int) (s2 : Int × Int) : Option (Step (Int × Int) (Out Int (Int × Int × Int))) :=
 (bif (decide (s2.2 ≥ 0)) then
 (bif (decide (s2.1 ≥ 36028797018963968)) then
 some (.done (.ret ((0, 0, 5))))
 else
 Option.bind (byteI x0 (w64 (x1 + s2.2))) fun (y3 : Int) =>
 some (.next ((w64 ((w64 (256 * s2.1)) + (w64 (y3)))), (w64 (s2.2 - 1)))))
 else
 some (.done (.fall s2.1)))
def ref02_Get (x0 : Str) (x1 : Int) (x2 : Int) : Option (Int × Int × Int) :=
 Option.bind (ref02_valid x2) fun (y1 : Bool) =>
 (bif (((!y1) || (decide (x1 < 0))) || (decide (x1 > (x0.length : Int)))) then
 some ((0, 0, 1))
 else
 (bif (decide ((w64 ((x0.length : Int) - x1)) < x2)) then
 some ((0, 0, 3))
 else
 Option.bind (loopF (ref02_Get_L1 x0 x1) BIG (0, (w64 (x2 - 1)))) fun (wo1 : Out Int (Int × Int × Int)) => match wo1 with
 | .ret r1 => some r1
 | .fall o1 =>
 some ((o1, (w64 (x1 + x2)), 0))))
def ref09_number (x0 : ref09_In) (x1 : Int) : Option (ref09_In × Int) :=
 Option.bind (ref02_Get x0.S_ 0 x1) fun (y1 : Int × Int × Int) =>
 (bif (x0.Bad_ || (y1.2.2 != 0)) then
 some (((ref09_In.mk [] true), 0))
 else
 Option.bind (subI x0.S_ y1.2.1 (x0.S_.length : Int)) fun (y2 : Str) =>
 some (((ref09_In.mk y2 false), y1.1)))
def ref02_GetText (x0 : Str) (x1 : Int) : Option (Str × Int × Int) :=
 Option.bind (ref02_Get x0 x1 2) fun (y1 : Int × Int × Int) =>
 (bif (y1.2.2 != 0) then
 some (([], 0, y1.2.2))
 else
 (bif (decide ((w64 ((x0.length : Int) - y1.2.1)) < y1.1)) then
 some (([], 0, 3))
 else
 Option.bind (subI x0 y1.2.1 (w64 (y1.2.1 + y1.1))) fun (y2 : Str) =>
 some ((y2, (w64 (y1.2.1 + y1.1)), 0))))
def ref09_counted (x0 : ref09_In) : Option (ref09_In × Str) :=
 Option.bind (ref02_GetText x0.S_ 0) fun (y1 : Str × Int × Int) =>
 (bif (x0.Bad_ || (y1.2.2 != 0)) then
 some (((ref09_In.mk [] true), []))
 else
 Option.bind (subI x0.S_ y1.2.1 (x0.S_.length : Int)) fun (y2 : Str) =>
 some (((ref09_In.mk y2 false), y1.1)))
def ref09_getQid (x0 : ref09_In) : Option (ref09_In × api_Qid) :=
 Option.bind (ref09_number x0 1) fun (y1 : ref09_In × Int) =>
 Option.bind (ref09_number y1.1 4) fun (y2 : ref09_In × Int) =>
 Option.bind (ref09_number y2.1 8) fun (y3 : ref09_In × Int) =>
 some ((y3.1, (api_Qid.mk y1.2 y2.2 y3.2)))
def ref04_Find_L1 (x0 : Str) (s2 : Int × (List Str)) : Option (Step (Int × (List Str)) (Out Unit (Int × Bool))) :=
 (bif (decide (s2.1 < (s2.2.length : Int))) then
 Option.bind (getI s2.2 s2.1) fun (y3 : Str) =>
 (bif (y3 == x0) then
 some (.done (.ret ((s2.1, true))))
 else
 some (.next ((w64 (s2.1 + 1)), s2.2)))
 else
 some (.done (.fall ())))
def ref04_Find (x0 : Str) : Option (Int × Bool) :=
 Option.bind (ref04_texts) fun (y1 : (List Str)) =>
 Option.bind (loopF (ref04_Find_L1 x0) BIG (1, y1)) fun (wo1 : Out Unit (Int × Bool)) => match wo1 with
 | .ret r1 => some r1
 | .fall _ =>
 some ((0, false))
def ref09_raw (x0 : ref09_In) (x1 : Int) : Option (ref09_In × Str) :=
 (bif (x0.Bad_ || (decide (x1 > (x0.S_.length : Int)))) then
 some (((ref09_In.mk [] true), []))
 else
 Option.bind (subI x0.S_ x1 (x0.S_.length : Int)) fun (y1 : Str) =>
 Option.bind (subI x0.S_ 0 x1) fun (y2 : Str) =>
 some (((ref09_In.mk y1 false), y2)))
def ref07_texts_L1 (x0 : Str) (s2 : Int × Int × Arr4_string) : Option (Step (Int × Int × Arr4_string) (Out (Int × Arr4_string) (Arr4_string × Bool))) :=
 (bif (decide (s2.2.1 < 4)) then
 (bif (decide ((w64 ((x0.length : Int) - s2.1)) < 2)) then
 some (.done (.ret ((s2.2.2, false))))
 else
 Option.bind (byteI x0 s2.1) fun (y4 : Int) =>
 Option.bind (byteI x0 (w64 (s2.1 + 1))) fun (y5 : Int) =>
 (bif (decide ((w64 ((w64 ((x0.length : Int) - s2.1)) - 2)) < (w64 ((w64 (y4)) + (w64 (256 * (w64 (y5)))))))) then
 some (.done (.ret ((s2.2.2, false))))
 else
 Option.bind (subI x0 (w64 (s2.1 + 2)) (w64 ((w64 (s2.1 + 2)) + (w64 ((w64 (y4)) + (w64 (256 * (w64 (y5))))))))) fun (y6 : Str) =>
 bif (s2.2.1 == 0) then some (.next ((w64 ((w64 (s2.1 + 2)) + (w64 ((w64 (y4)) + (w64 (256 * (w64 (y5)))))))), (w64 (s2.2.1 + 1)), (Arr4_string.mk y6 s2.2.2.a1_ s2.2.2.a2_ s2.2.2.a3_))) else bif (s2.2.1 == 1) then some (.next ((w64 ((w64 (s2.1 + 2)) + (w64 ((w64 (y4)) + (w64 (256 * (w64 (y5)))))))), (w64 (s2.2.1 + 1)), (Arr4_string.mk s2.2.2.a0_ y6 s2.2.2.a2_ s2.2.2.a3_))) else bif (s2.2.1 == 2) then some (.next ((w64 ((w64 (s2.1 + 2)) + (w64 ((w64 (y4)) + (w64 (256 * (w64 (y5)))))))), (w64 (s2.2.1 + 1)), (Arr4_string.mk s2.2.2.a0_ s2.2.2.a1_ y6 s2.2.2.a3_))) else bif (s2.2.1 == 3) then some (.next ((w64 ((w64 (s2.1 + 2)) + (w64 ((w64 (y4)) + (w64 (256 * (w64 (y5)))))))), (w64 (s2.2.1 + 1)), (Arr4_string.mk s2.2.2.a0_ s2.2.2.a1_ s2.2.2.a2_ y6))) else none))
 else
 some (.done (.fall (s2.1, s2.2.2))))
def ref07_texts (x0 : Str) : Option (Arr4_string × Bool) :=
 Option.bind (loopF (ref07_texts_L1 x0) BIG (0, 0, (Arr4_string.mk [] [] [] []))) fun (wo1 : Out (Int × Arr4_string) (Arr4_string × Bool)) => match wo1 with
 | .ret r1 => some r1
 | .fall o1 =>
 some ((o1.2, (o1.1 == (x0.length : Int))))
def ref07_number_L1 (x0 : Str) (x1 : Int) (s2 : Int × Bool × Int) : Option (Step (Int × Bool × Int) (Int × Bool)) :=
 (bif (decide (s2.2.2 ≥ 0)) then
 Option.bind (
 Option.bind (bif s2.2.1 then 
 Option.bind (byteI x0 (w64 (x1 + s2.2.2))) fun (y4 : Int) =>
 some (y4 == 255)
 else some false) fun (y5 : Bool) =>
 (bif (decide (s2.1 ≥ 36028797018963968)) then
 some (9223372036854775807, y5)
 else
 Option.bind (byteI x0 (w64 (x1 + s2.2.2))) fun (y6 : Int) =>
 some ((w64 ((w64 (s2.1 * 256)) + (w64 (y6)))), y5))
 ) fun (o2 : Int × Bool) =>
 some (.next (o2.1, o2.2, (w64 (s2.2.2 - 1))))
 else
 some (.done (s2.1, s2.2.1)))
def ref07_number (x0 : Str) (x1 : Int) (x2 : Int) : Option Int :=
 Option.bind (loopF (ref07_number_L1 x0 x1) BIG (0, true, (w64 (x2 - 1)))) fun (o3 : Int × Bool) =>
 (bif o3.2 then
 some ((-1))
 else
 some (o3.1))
def ref07_Get (x0 : Str) (x1 : Int) : Option (api_Dir × Int × Int) :=
 (bif ((decide (x1 < 0)) || (decide (x1 > (x0.length : Int)))) then
 some (((api_Dir.mk 0 0 (api_Qid.mk 0 0 0) 0 0 0 0 [] [] [] []), 0, 1))
 else
 (bif (decide ((w64 ((x0.length : Int) - x1)) < 2)) then
 some (((api_Dir.mk 0 0 (api_Qid.mk 0 0 0) 0 0 0 0 [] [] [] []), 0, 3))
 else
 Option.bind (byteI x0 x1) fun (y1 : Int) =>
 Option.bind (byteI x0 (w64 (x1 + 1))) fun (y2 : Int) =>
 (bif (decide ((w64 ((w64 ((x0.length : Int) - x1)) - 2)) < (w64 ((w64 (y1)) + (w64 (256 * (w64 (y2)))))))) then
 some (((api_Dir.mk 0 0 (api_Qid.mk 0 0 0) 0 0 0 0 [] [] [] []), 0, 3))
 else
 Option.bind (subI x0 (w64 (x1 + 2)) (w64 ((w64 (x1 + 2)) + (w64 ((w64 (y1)) + (w64 (256 * (w64 (y2))))))))) fun (y3 : Str) =>
 (bif (decide ((w64 ((w64 (y1)) + (w64 (256 * (w64 (y2)))))) < 47)) then
 some (((api_Dir.mk 0 0 (api_Qid.mk 0 0 0) 0 0 0 0 [] [] [] []), 0, 2))
 else
 Option.bind (subI y3 47 (y3.length : Int)) fun (y4 : Str) =>
 Option.bind (ref07_texts y4) fun (y5 : Arr4_string × Bool) =>
 (bif (!y5.2) then
 some (((api_Dir.mk 0 0 (api_Qid.mk 0 0 0) 0 0 0 0 [] [] [] []), 0, 2))
 else
 Option.bind (ref07_number y3 6 1) fun (y6 : Int) =>
 Option.bind (ref07_number y3 7 4) fun (y7 : Int) =>
 Option.bind (ref07_number y3 11 8) fun (y8 : Int) =>
 Option.bind (ref07_number y3 0 2) fun (y9 : Int) =>
 Option.bind (ref07_number y3 2 4) fun (y10 : Int) =>
 Option.bind (ref07_number y3 19 4) fun (y11 : Int) =>
 Option.bind (ref07_number y3 23 8) fun (y12 : Int) =>
 Option.bind (ref07_number y3 31 8) fun (y13 : Int) =>
 Option.bind (ref07_number y3 39 8) fun (y14 : Int) =>
 Option.bind (ref07_Check (api_Dir.mk y9 y10 (api_Qid.mk y6 y7 y8) y11 y12 y13 y14 y5.1.a0_ y5.1.a1_ y5.1.a2_ y5.1.a3_)) fun (y15 : Int) =>
 (bif (y15 != 0) then
 some (((api_Dir.mk 0 0 (api_Qid.mk 0 0 0) 0 0 0 0 [] [] [] []), 0, y15))
 else
 some (((api_Dir.mk y9 y10 (api_Qid.mk y6 y7 y8) y11 y12 y13 y14 y5.1.a0_ y5.1.a1_ y5.1.a2_ y5.1.a3_), (w64 ((w64 (x1 + 2)) + (w64 ((w64 (y1)) + (w64 (256 * (w64 (y2)))))))), 0))))))))
def ref09_readList_L1 (y3 : ref09_In × Int) (s2 : Int × ref09_In × Int × Int × Int × Int × Int × Int × Int × Str × Str × Str × Int × Int × Int × Int × Int × Int × Str × Int × Int × Str × Int × Int × Int × Int × Int × Int × Int × Int × Int × Str × Str × Str × Str × Int × Int × Int × Str × (List Str) × (List api_Qid)) : Option (Step (Int × ref09_In × Int × Int × Int × Int × Int × Int × Int × Str × Str × Str × Int × Int × Int × Int × Int × Int × Str × Int × Int × Str × Int × Int × Int × Int × Int × Int × Int × Int × Int × Str × Str × Str × Str × Int × Int × Int × Str × (List Str) × (List api_Qid)) (ref09_In × Int × Int × Int × Int × Int × Int × Int × Str × Str × Str × Int × Int × Int × Int × Int × Int × Str × Int × Int × Str × Int × Int × Int × Int × Int × Int × Int × Int × Int × Str × Str × Str × Str × Int × Int × Int × Str × (List Str) × (List api_Qid))) :=
 (bif ((decide (s2.1 < y3.2)) && (!s2.2.1.Bad_)) then
 Option.bind (ref09_counted s2.2.1) fun (y6 : ref09_In × Str) =>
 Option.bind (room 16 s2.2.2.2.2.2.2.2.2.2.2.2.2.2.2.2.2.2.2.2.2.2.2.2.2.2.2.2.2.2.2.2.2.2.2.2.2.2.2.2.1 [y6.2]) fun (y7 : List Str) =>
 some (.next ((w64 (s2.1 + 1)), y6.1, s2.2.2.1, s2.2.2.2.1, s2.2.2.2.2.1, s2.2.2.2.2.2.1, s2.2.2.2.2.2.2.1, s2.2.2.2.2.2.2.2.1, s2.2.2.2.2.2.2.2.2.1, s2.2.2.2.2.2.2.2.2.2.1, s2.2.2.2.2.2.2.2.2.2.2.1, s2.2.2.2.2.2.2.2.2.2.2.2.1, s2.2.2.2.2.2.2.2.2.2.2.2.2.1, s2.2.2.2.2.2.2.2.2.2.2.2.2.2.1, s2.2.2.2.2.2.2.2.2.2.2.2.2.2.2.1, s2.2.2.2.2.2.2.2.2.2.2.2.2.2.2.2.1, s2.2.2.2.2.2.2.2.2.2.2.2.2.2.2.2.2.1, s2.2.2.2.2.2.2.2.2.2.2.2.2.2.2.2.2.2.1, s2.2.2.2.2.2.2.2.2.2.2.2.2.2.2.2.2.2.2.1, s2.2.2.2.2.2.2.2.2.2.2.2.2.2.2.2.2.2.2.2.1, s2.2.2.2.2.2.2.2.2.2.2.2.2.2.2.2.2.2.2.2.2.1, s2.2.2.2.2.2.2.2.2.2.2.2.2.2.2.2.2.2.2.2.2.2.1, s2.2.2.2.2.2.2.2.2.2.2.2.2.2.2.2.2.2.2.2.2.2.2.1, s2.2.2.2.2.2.2.2.2.2.2.2.2.2.2.2.2.2.2.2.2.2.2.2.1, s2.2.2.2.2.2.2.2.2.2.2.2.2.2.2.2.2.2.2.2.2.2.2.2.2.1, s2.2.2.2.2.2.2.2.2.2.2.2.2.2.2.2.2.2.2.2.2.2.2.2.2.2.1, s2.2.2.2.2.2.2.2.2.2.2.2.2.2.2.2.2.2.2.2.2.2.2.2.2.2.2.1, s2.2.2.2.2.2.2.2.2.2.2.2.2.2.2.2.2.2.2.2.2.2.2.2.2.2.2.2.1, s2.2.2.2.2.2.2.2.2.2.2.2.2.2.2.2.2.2.2.2.2.2.2.2.2.2.2.2.2.1, s2.2.2.2.2.2.2.2.2.2.2.2.2.2.2.2.2.2.2.2.2.2.2.2.2.2.2.2.2.2.1, s2.2.2.2.2.2.2.2.2.2.2.2.2.2.2.2.2.2.2.2.2.2.2.2.2.2.2.2.2.2.2.1, s2.2.2.2.2.2.2.2.2.2.2.2.2.2.2.2.2.2.2.2.2.2.2.2.2.2.2.2.2.2.2.2.1, s2.2.2.2.2.2.2.2.2.2.2.2.2.2.2.2.2.2.2.2.2.2.2.2.2.2.2.2.2.2.2.2.2.1, s2.2.2.2.2.2.2.2.2.2.2.2.2.2.2.2.2.2.2.2.2.2.2.2.2.2.2.2.2.2.2.2.2.2.1, s2.2.2.2.2.2.2.2.2.2.2.2.2.2.2.2.2.2.2.2.2.2.2.2.2.2.2.2.2.2.2.2.2.2.2.1, s2.2.2.2.2.2.2.2.2.2.2.2.2.2.2.2.2.2.2.2.2.2.2.2.2.2.2.2.2.2.2.2.2.2.2.2.1, s2.2.2.2.2.2.2.2.2.2.2.2.2.2.2.2.2.2.2.2.2.2.2.2.2.2.2.2.2.2.2.2.2.2.2.2.2.1, s2.2.2.2.2.2.2.2.2.2.2.2.2.2.2.2.2.2.2.2.2.2.2.2.2.2.2.2.2.2.2.2.2.2.2.2.2.2.1, s2.2.2.2.2.2.2.2.2.2.2.2.2.2.2.2.2.2.2.2.2.2.2.2.2.2.2.2.2.2.2.2.2.2.2.2.2.2.2.1, y7, s2.2.2.2.2.2.2.2.2.2.2.2.2.2.2.2.2.2.2.2.2.2.2.2.2.2.2.2.2.2.2.2.2.2.2.2.2.2.2.2.2))
 else
 some (.done (s2.2.1, s2.2.2.1, s2.2.2.2.1, s2.2.2.2.2.1, s2.2.2.2.2.2.1, s2.2.2.2.2.2.2.1, s2.2.2.2.2.2.2.2.1, s2.2.2.2.2.2.2.2.2.1, s2.2.2.2.2.2.2.2.2.2.1, s2.2.2.2.2.2.2.2.2.2.2.1, s2.2.2.2.2.2.2.2.2.2.2.2.1, s2.2.2.2.2.2.2.2.2.2.2.2.2.1, s2.2.2.2.2.2.2.2.2.2.2.2.2.2.1, s2.2.2.2.2.2.2.2.2.2.2.2.2.2.2.1, s2.2.2.2.2.2.2.2.2.2.2.2.2.2.2.2.1, s2.2.2.2.2.2.2.2.2.2.2.2.2.2.2.2.2.1, s2.2.2.2.2.2.2.2.2.2.2.2.2.2.2.2.2.2.1, s2.2.2.2.2.2.2.2.2.2.2.2.2.2.2.2.2.2.2.1, s2.2.2.2.2.2.2.2.2.2.2.2.2.2.2.2.2.2.2.2.1, s2.2.2.2.2.2.2.2.2.2.2.2.2.2.2.2.2.2.2.2.2.1, s2.2.2.2.2.2.2.2.2.2.2.2.2.2.2.2.2.2.2.2.2.2.1, s2.2.2.2.2.2.2.2.2.2.2.2.2.2.2.2.2.2.2.2.2.2.2.1, s2.2.2.2.2.2.2.2.2.2.2.2.2.2.2.2.2.2.2.2.2.2.2.2.1, s2.2.2.2.2.2.2.2.2.2.2.2.2.2.2.2.2.2.2.2.2.2.2.2.2.1, s2.2.2.2.2.2.2.2.2.2.2.2.2.2.2.2.2.2.2.2.2.2.2.2.2.2.1, s2.2.2.2.2.2.2.2.2.2.2.2.2.2.2.2.2.2.2.2.2.2.2.2.2.2.2.1, s2.2.2.2.2.2.2.2.2.2.2.2.2.2.2.2.2.2.2.2.2.2.2.2.2.2.2.2.1, s2.2.2.2.2.2.2.2.2.2.2.2.2.2.2.2.2.2.2.2.2.2.2.2.2.2.2.2.2.1, s2.2.2.2.2.2.2.2.2.2.2.2.2.2.2.2.2.2.2.2.2.2.2.2.2.2.2.2.2.2.1, s2.2.2.2.2.2.2.2.2.2.2.2.2.2.2.2.2.2.2.2.2.2.2.2.2.2.2.2.2.2.2.1, s2.2.2.2.2.2.2.2.2.2.2.2.2.2.2.2.2.2.2.2.2.2.2.2.2.2.2.2.2.2.2.2.1, s2.2.2.2.2.2.2.2.2.2.2.2.2.2.2.2.2.2.2.2.2.2.2.2.2.2.2.2.2.2.2.2.2.1, s2.2.2.2.2.2.2.2.2.2.2.2.2.2.2.2.2.2.2.2.2.2.2.2.2.2.2.2.2.2.2.2.2.2.1, s2.2.2.2.2.2.2.2.2.2.2.2.2.2.2.2.2.2.2.2.2.2.2.2.2.2.2.2.2.2.2.2.2.2.2.1, s2.2.2.2.2.2.2.2.2.2.2.2.2.2.2.2.2.2.2.2.2.2.2.2.2.2.2.2.2.2.2.2.2.2.2.2.1, s2.2.2.2.2.2.2.2.2.2.2.2.2.2.2.2.2.2.2.2.2.2.2.2.2.2.2.2.2.2.2.2.2.2.2.2.2.1, s2.2.2.2.2.2.2.2.2.2.2.2.2.2.2.2.2.2.2.2.2.2.2.2.2.2.2.2.2.2.2.2.2.2.2.2.2.2.1, s2.2.2.2.2.2.2.2.2.2.2.2.2.2.2.2.2.2.2.2.2.2.2.2.2.2.2.2.2.2.2.2.2.2.2.2.2.2.2.1, s2.2.2.2.2.2.2.2.2.2.2.2.2.2.2.2.2.2.2.2.2.2.2.2.2.2.2.2.2.2.2.2.2.2.2.2.2.2.2.2.1, s2.2.2.2.2.2.2.2.2.2.2.2.2.2.2.2.2.2.2.2.2.2.2.2.2.2.2.2.2.2.2.2.2.2.2.2.2.2.2.2.2)))
def ref09_readList_L2 (y8 : ref09_In × Int) (s4 : Int × ref09_In × Int × Int × Int × Int × Int × Int × Int × Str × Str × Str × Int × Int × Int × Int × Int × Int × Str × Int × Int × Str × Int × Int × Int × Int × Int × Int × Int × Int × Int × Str × Str × Str × Str × Int × Int × Int × Str × (List Str) × (List api_Qid)) : Option (Step (Int × ref09_In × Int × Int × Int × Int × Int × Int × Int × Str × Str × Str × Int × Int × Int × Int × Int × Int × Str × Int × Int × Str × Int × Int × Int × Int × Int × Int × Int × Int × Int × Str × Str × Str × Str × Int × Int × Int × Str × (List Str) × (List api_Qid)) (ref09_In × Int × Int × Int × Int × Int × Int × Int × Str × Str × Str × Int × Int × Int × Int × Int × Int × Str × Int × Int × Str × Int × Int × Int × Int × Int × Int × Int × Int × Int × Str × Str × Str × Str × Int × Int × Int × Str × (List Str) × (List api_Qid))) :=
 (bif ((decide (s4.1 < y8.2)) && (!s4.2.1.Bad_)) then
 Option.bind (ref09_getQid s4.2.1) fun (y11 : ref09_In × api_Qid) =>
 Option.bind (room 24 s4.2.2.2.2.2.2.2.2.2.2.2.2.2.2.2.2.2.2.2.2.2.2.2.2.2.2.2.2.2.2.2.2.2.2.2.2.2.2.2.2 [y11.2]) fun (y12 : List api_Qid) =>
 some (.next ((w64 (s4.1 + 1)), y11.1, s4.2.2.1, s4.2.2.2.1, s4.2.2.2.2.1, s4.2.2.2.2.2.1, s4.2.2.2.2.2.2.1, s4.2.2.2.2.2.2.2.1, s4.2.2.2.2.2.2.2.2.1, s4.2.2.2.2.2.2.2.2.2.1, s4.2.2.2.2.2.2.2.2.2.2.1, s4.2.2.2.2.2.2.2.2.2.2.2.1, s4.2.2.2.2.2.2.2.2.2.2.2.2.1, s4.2.2.2.2.2.2.2.2.2.2.2.2.2.1, s4.2.2.2.2.2.2.2.2.2.2.2.2.2.2.1, s4.2.2.2.2.2.2.2.2.2.2.2.2.2.2.2.1, s4.2.2.2.2.2.2.2.2.2.2.2.2.2.2.2.2.1, s4.2.2.2.2.2.2.2.2.2.2.2.2.2.2.2.2.2.1, s4.2.2.2.2.2.2.2.2.2.2.2.2.2.2.2.2.2.2.1, s4.2.2.2.2.2.2.2.2.2.2.2.2.2.2.2.2.2.2.2.1, s4.2.2.2.2.2.2.2.2.2.2.2.2.2.2.2.2.2.2.2.2.1, s4.2.2.2.2.2.2.2.2.2.2.2.2.2.2.2.2.2.2.2.2.2.1, s4.2.2.2.2.2.2.2.2.2.2.2.2.2.2.2.2.2.2.2.2.2.2.1, s4.2.2.2.2.2.2.2.2.2.2.2.2.2.2.2.2.2.2.2.2.2.2.2.1, s4.2.2.2.2.2.2.2.2.2.2.2.2.2.2.2.2.2.2.2.2.2.2.2.2.1, s4.2.2.2.2.2.2.2.2.2.2.2.2.2.2.2.2.2.2.2.2.2.2.2.2.2.1, s4.2.2.2.2.2.2.2.2.2.2.2.2.2.2.2.2.2.2.2.2.2.2.2.2.2.2.1, s4.2.2.2.2.2.2.2.2.2.2.2.2.2.2.2.2.2.2.2.2.2.2.2.2.2.2.2.1, s4.2.2.2.2.2.2.2.2.2.2.2.2.2.2.2.2.2.2.2.2.2.2.2.2.2.2.2.2.1, s4.2.2.2.2.2.2.2.2.2.2.2.2.2.2.2.2.2.2.2.2.2.2.2.2.2.2.2.2.2.1, s4.2.2.2.2.2.2.2.2.2.2.2.2.2.2.2.2.2.2.2.2.2.2.2.2.2.2.2.2.2.2.1, s4.2.2.2.2.2.2.2.2.2.2.2.2.2.2.2.2.2.2.2.2.2.2.2.2.2.2.2.2.2.2.2.1, s4.2.2.2.2.2.2.2.2.2.2.2.2.2.2.2.2.2.2.2.2.2.2.2.2.2.2.2.2.2.2.2.2.1, s4.2.2.2.2.2.2.2.2.2.2.2.2.2.2.2.2.2.2.2.2.2.2.2.2.2.2.2.2.2.2.2.2.2.1, s4.2.2.2.2.2.2.2.2.2.2.2.2.2.2.2.2.2.2.2.2.2.2.2.2.2.2.2.2.2.2.2.2.2.2.1, s4.2.2.2.2.2.2.2.2.2.2.2.2.2.2.2.2.2.2.2.2.2.2.2.2.2.2.2.2.2.2.2.2.2.2.2.1, s4.2.2.2.2.2.2.2.2.2.2.2.2.2.2.2.2.2.2.2.2.2.2.2.2.2.2.2.2.2.2.2.2.2.2.2.2.1, s4.2.2.2.2.2.2.2.2.2.2.2.2.2.2.2.2.2.2.2.2.2.2.2.2.2.2.2.2.2.2.2.2.2.2.2.2.2.1, s4.2.2.2.2.2.2.2.2.2.2.2.2.2.2.2.2.2.2.2.2.2.2.2.2.2.2.2.2.2.2.2.2.2.2.2.2.2.2.1, s4.2.2.2.2.2.2.2.2.2.2.2.2.2.2.2.2.2.2.2.2.2.2.2.2.2.2.2.2.2.2.2.2.2.2.2.2.2.2.2.1, y12))
 else
 some (.done (s4.2.1, s4.2.2.1, s4.2.2.2.1, s4.2.2.2.2.1, s4.2.2.2.2.2.1, s4.2.2.2.2.2.2.1, s4.2.2.2.2.2.2.2.1, s4.2.2.2.2.2.2.2.2.1, s4.2.2.2.2.2.2.2.2.2.1, s4.2.2.2.2.2.2.2.2.2.2.1, s4.2.2.2.2.2.2.2.2.2.2.2.1, s4.2.2.2.2.2.2.2.2.2.2.2.2.1, s4.2.2.2.2.2.2.2.2.2.2.2.2.2.1, s4.2.2.2.2.2.2.2.2.2.2.2.2.2.2.1, s4.2.2.2.2.2.2.2.2.2.2.2.2.2.2.2.1, s4.2.2.2.2.2.2.2.2.2.2.2.2.2.2.2.2.1, s4.2.2.2.2.2.2.2.2.2.2.2.2.2.2.2.2.2.1, s4.2.2.2.2.2.2.2.2.2.2.2.2.2.2.2.2.2.2.1, s4.2.2.2.2.2.2.2.2.2.2.2.2.2.2.2.2.2.2.2.1, s4.2.2.2.2.2.2.2.2.2.2.2.2.2.2.2.2.2.2.2.2.1, s4.2.2.2.2.2.2.2.2.2.2.2.2.2.2.2.2.2.2.2.2.2.1, s4.2.2.2.2.2.2.2.2.2.2.2.2.2.2.2.2.2.2.2.2.2.2.1, s4.2.2.2.2.2.2.2.2.2.2.2.2.2.2.2.2.2.2.2.2.2.2.2.1, s4.2.2.2.2.2.2.2.2.2.2.2.2.2.2.2.2.2.2.2.2.2.2.2.2.1, s4.2.2.2.2.2.2.2.2.2.2.2.2.2.2.2.2.2.2.2.2.2.2.2.2.2.1, s4.2.2.2.2.2.2.2.2.2.2.2.2.2.2.2.2.2.2.2.2.2.2.2.2.2.2.1, s4.2.2.2.2.2.2.2.2.2.2.2.2.2.2.2.2.2.2.2.2.2.2.2.2.2.2.2.1, s4.2.2.2.2.2.2.2.2.2.2.2.2.2.2.2.2.2.2.2.2.2.2.2.2.2.2.2.2.1, s4.2.2.2.2.2.2.2.2.2.2.2.2.2.2.2.2.2.2.2.2.2.2.2.2.2.2.2.2.2.1, s4.2.2.2.2.2.2.2.2.2.2.2.2.2.2.2.2.2.2.2.2.2.2.2.2.2.2.2.2.2.2.1, s4.2.2.2.2.2.2.2.2.2.2.2.2.2.2.2.2.2.2.2.2.2.2.2.2.2.2.2.2.2.2.2.1, s4.2.2.2.2.2.2.2.2.2.2.2.2.2.2.2.2.2.2.2.2.2.2.2.2.2.2.2.2.2.2.2.2.1, s4.2.2.2.2.2.2.2.2.2.2.2.2.2.2.2.2.2.2.2.2.2.2.2.2.2.2.2.2.2.2.2.2.2.1, s4.2.2.2.2.2.2.2.2.2.2.2.2.2.2.2.2.2.2.2.2.2.2.2.2.2.2.2.2.2.2.2.2.2.2.1, s4.2.2.2.2.2.2.2.2.2.2.2.2.2.2.2.2.2.2.2.2.2.2.2.2.2.2.2.2.2.2.2.2.2.2.2.1, s4.2.2.2.2.2.2.2.2.2.2.2.2.2.2.2.2.2.2.2.2.2.2.2.2.2.2.2.2.2.2.2.2.2.2.2.2.1, s4.2.2.2.2.2.2.2.2.2.2.2.2.2.2.2.2.2.2.2.2.2.2.2.2.2.2.2.2.2.2.2.2.2.2.2.2.2.1, s4.2.2.2.2.2.2.2.2.2.2.2.2.2.2.2.2.2.2.2.2.2.2.2.2.2.2.2.2.2.2.2.2.2.2.2.2.2.2.1, s4.2.2.2.2.2.2.2.2.2.2.2.2.2.2.2.2.2.2.2.2.2.2.2.2.2.2.2.2.2.2.2.2.2.2.2.2.2.2.2.1, s4.2.2.2.2.2.2.2.2.2.2.2.2.2.2.2.2.2.2.2.2.2.2.2.2.2.2.2.2.2.2.2.2.2.2.2.2.2.2.2.2)))
def ref09_readList (x0 : ref09_In) (x1 : api_Msg) (x2 : Int) : Option (ref09_In × api_Msg) :=
 Option.bind (
 (bif (x2 == 9) then
 Option.bind (ref09_counted x0) fun (y1 : ref09_In × Str) =>
 Option.bind (ref04_Find y1.2) fun (y2 : Int × Bool) =>
 some (.ret (((ref09_In.mk y1.1.S_ (y1.1.Bad_ || (!y2.2))), (api_Msg.mk x1.Kind_ x1.Tag_ x1.Fid_ x1.NewFid_ x1.AuthFid_ x1.OldTag_ x1.Msize_ x1.Version_ x1.User_ x1.Attach_ x1.Names_ x1.Qids_ x1.Qid_ x1.Iounit_ x1.Mode_ x1.Perm_ x1.Name_ x1.Offset_ x1.Count_ x1.Data_ x1.Stat_ y2.1 x1.Lease_ x1.Term_ x1.Session_))))
 else
 (bif (x2 == 12) then
 Option.bind (ref09_number x0 2) fun (y3 : ref09_In × Int) =>
 Option.bind (loopF (ref09_readList_L1 y3) BIG (0, y3.1, x1.Kind_, x1.Tag_, x1.Fid_, x1.NewFid_, x1.AuthFid_, x1.OldTag_, x1.Msize_, x1.Version_, x1.User_, x1.Attach_, x1.Qid_.Type_, x1.Qid_.Vers_, x1.Qid_.Path_, x1.Iounit_, x1.Mode_, x1.Perm_, x1.Name_, x1.Offset_, x1.Count_, x1.Data_, x1.Stat_.Type_, x1.Stat_.Dev_, x1.Stat_.Qid_.Type_, x1.Stat_.Qid_.Vers_, x1.Stat_.Qid_.Path_, x1.Stat_.Mode_, x1.Stat_.Atime_, x1.Stat_.Mtime_, x1.Stat_.Length_, x1.Stat_.Name_, x1.Stat_.Uid_, x1.Stat_.Gid_, x1.Stat_.Muid_, x1.Err_, x1.Lease_, x1.Term_, x1.Session_, x1.Names_, x1.Qids_)) fun (o1 : ref09_In × Int × Int × Int × Int × Int × Int × Int × Str × Str × Str × Int × Int × Int × Int × Int × Int × Str × Int × Int × Str × Int × Int × Int × Int × Int × Int × Int × Int × Int × Str × Str × Str × Str × Int × Int × Int × Str × (List Str) × (List api_Qid)) =>
 some (.fall (o1.1, o1.2.1, o1.2.2.1, o1.2.2.2.1, o1.2.2.2.2.1, o1.2.2.2.2.2.1, o1.2.2.2.2.2.2.1, o1.2.2.2.2.2.2.2.1, o1.2.2.2.2.2.2.2.2.1, o1.2.2.2.2.2.2.2.2.2.1, o1.2.2.2.2.2.2.2.2.2.2.1, o1.2.2.2.2.2.2.2.2.2.2.2.1, o1.2.2.2.2.2.2.2.2.2.2.2.2.1, o1.2.2.2.2.2.2.2.2.2.2.2.2.2.1, o1.2.2.2.2.2.2.2.2.2.2.2.2.2.2.1, o1.2.2.2.2.2.2.2.2.2.2.2.2.2.2.2.1, o1.2.2.2.2.2.2.2.2.2.2.2.2.2.2.2.2.1, o1.2.2.2.2.2.2.2.2.2.2.2.2.2.2.2.2.2.1, o1.2.2.2.2.2.2.2.2.2.2.2.2.2.2.2.2.2.2.1, o1.2.2.2.2.2.2.2.2.2.2.2.2.2.2.2.2.2.2.2.1, o1.2.2.2.2.2.2.2.2.2.2.2.2.2.2.2.2.2.2.2.2.1, o1.2.2.2.2.2.2.2.2.2.2.2.2.2.2.2.2.2.2.2.2.2.1, o1.2.2.2.2.2.2.2.2.2.2.2.2.2.2.2.2.2.2.2.2.2.2.1, o1.2.2.2.2.2.2.2.2.2.2.2.2.2.2.2.2.2.2.2.2.2.2.2.1, o1.2.2.2.2.2.2.2.2.2.2.2.2.2.2.2.2.2.2.2.2.2.2.2.2.1, o1.2.2.2.2.2.2.2.2.2.2.2.2.2.2.2.2.2.2.2.2.2.2.2.2.2.1, o1.2.2.2.2.2.2.2.2.2.2.2.2.2.2.2.2.2.2.2.2.2.2.2.2.2.2.1, o1.2.2.2.2.2.2.2.2.2.2.2.2.2.2.2.2.2.2.2.2.2.2.2.2.2.2.2.1, o1.2.2.2.2.2.2.2.2.2.2.2.2.2.2.2.2.2.2.2.2.2.2.2.2.2.2.2.2.1, o1.2.2.2.2.2.2.2.2.2.2.2.2.2.2.2.2.2.2.2.2.2.2.2.2.2.2.2.2.2.1, o1.2.2.2.2.2.2.2.2.2.2.2.2.2.2.2.2.2.2.2.2.2.2.2.2.2.2.2.2.2.2.1, o1.2.2.2.2.2.2.2.2.2.2.2.2.2.2.2.2.2.2.2.2.2.2.2.2.2.2.2.2.2.2.2.1, o1.2.2.2.2.2.2.2.2.2.2.2.2.2.2.2.2.2.2.2.2.2.2.2.2.2.2.2.2.2.2.2.2.1, o1.2.2.2.2.2.2.2.2.2.2.2.2.2.2.2.2.2.2.2.2.2.2.2.2.2.2.2.2.2.2.2.2.2.1, o1.2.2.2.2.2.2.2.2.2.2.2.2.2.2.2.2.2.2.2.2.2.2.2.2.2.2.2.2.2.2.2.2.2.2.1, o1.2.2.2.2.2.2.2.2.2.2.2.2.2.2.2.2.2.2.2.2.2.2.2.2.2.2.2.2.2.2.2.2.2.2.2.1, o1.2.2.2.2.2.2.2.2.2.2.2.2.2.2.2.2.2.2.2.2.2.2.2.2.2.2.2.2.2.2.2.2.2.2.2.2.1, o1.2.2.2.2.2.2.2.2.2.2.2.2.2.2.2.2.2.2.2.2.2.2.2.2.2.2.2.2.2.2.2.2.2.2.2.2.2.1, o1.2.2.2.2.2.2.2.2.2.2.2.2.2.2.2.2.2.2.2.2.2.2.2.2.2.2.2.2.2.2.2.2.2.2.2.2.2.2.1, o1.2.2.2.2.2.2.2.2.2.2.2.2.2.2.2.2.2.2.2.2.2.2.2.2.2.2.2.2.2.2.2.2.2.2.2.2.2.2.2))
 else
 (bif (x2 == 13) then
 Option.bind (ref09_number x0 2) fun (y8 : ref09_In × Int) =>
 Option.bind (loopF (ref09_readList_L2 y8) BIG (0, y8.1, x1.Kind_, x1.Tag_, x1.Fid_, x1.NewFid_, x1.AuthFid_, x1.OldTag_, x1.Msize_, x1.Version_, x1.User_, x1.Attach_, x1.Qid_.Type_, x1.Qid_.Vers_, x1.Qid_.Path_, x1.Iounit_, x1.Mode_, x1.Perm_, x1.Name_, x1.Offset_, x1.Count_, x1.Data_, x1.Stat_.Type_, x1.Stat_.Dev_, x1.Stat_.Qid_.Type_, x1.Stat_.Qid_.Vers_, x1.Stat_.Qid_.Path_, x1.Stat_.Mode_, x1.Stat_.Atime_, x1.Stat_.Mtime_, x1.Stat_.Length_, x1.Stat_.Name_, x1.Stat_.Uid_, x1.Stat_.Gid_, x1.Stat_.Muid_, x1.Err_, x1.Lease_, x1.Term_, x1.Session_, x1.Names_, x1.Qids_)) fun (o2 : ref09_In × Int × Int × Int × Int × Int × Int × Int × Str × Str × Str × Int × Int × Int × Int × Int × Int × Str × Int × Int × Str × Int × Int × Int × Int × Int × Int × Int × Int × Int × Str × Str × Str × Str × Int × Int × Int × Str × (List Str) × (List api_Qid)) =>
 some (.fall (o2.1, o2.2.1, o2.2.2.1, o2.2.2.2.1, o2.2.2.2.2.1, o2.2.2.2.2.2.1, o2.2.2.2.2.2.2.1, o2.2.2.2.2.2.2.2.1, o2.2.2.2.2.2.2.2.2.1, o2.2.2.2.2.2.2.2.2.2.1, o2.2.2.2.2.2.2.2.2.2.2.1, o2.2.2.2.2.2.2.2.2.2.2.2.1, o2.2.2.2.2.2.2.2.2.2.2.2.2.1, o2.2.2.2.2.2.2.2.2.2.2.2.2.2.1, o2.2.2.2.2.2.2.2.2.2.2.2.2.2.2.1, o2.2.2.2.2.2.2.2.2.2.2.2.2.2.2.2.1, o2.2.2.2.2.2.2.2.2.2.2.2.2.2.2.2.2.1, o2.2.2.2.2.2.2.2.2.2.2.2.2.2.2.2.2.2.1, o2.2.2.2.2.2.2.2.2.2.2.2.2.2.2.2.2.2.2.1, o2.2.2.2.2.2.2.2.2.2.2.2.2.2.2.2.2.2.2.2.1, o2.2.2.2.2.2.2.2.2.2.2.2.2.2.2.2.2.2.2.2.2.1, o2.2.2.2.2.2.2.2.2.2.2.2.2.2.2.2.2.2.2.2.2.2.1, o2.2.2.2.2.2.2.2.2.2.2.2.2.2.2.2.2.2.2.2.2.2.2.1, o2.2.2.2.2.2.2.2.2.2.2.2.2.2.2.2.2.2.2.2.2.2.2.2.1, o2.2.2.2.2.2.2.2.2.2.2.2.2.2.2.2.2.2.2.2.2.2.2.2.2.1, o2.2.2.2.2.2.2.2.2.2.2.2.2.2.2.2.2.2.2.2.2.2.2.2.2.2.1, o2.2.2.2.2.2.2.2.2.2.2.2.2.2.2.2.2.2.2.2.2.2.2.2.2.2.2.1, o2.2.2.2.2.2.2.2.2.2.2.2.2.2.2.2.2.2.2.2.2.2.2.2.2.2.2.2.1, o2.2.2.2.2.2.2.2.2.2.2.2.2.2.2.2.2.2.2.2.2.2.2.2.2.2.2.2.2.1, o2.2.2.2.2.2.2.2.2.2.2.2.2.2.2.2.2.2.2.2.2.2.2.2.2.2.2.2.2.2.1, o2.2.2.2.2.2.2.2.2.2.2.2.2.2.2.2.2.2.2.2.2.2.2.2.2.2.2.2.2.2.2.1, o2.2.2.2.2.2.2.2.2.2.2.2.2.2.2.2.2.2.2.2.2.2.2.2.2.2.2.2.2.2.2.2.1, o2.2.2.2.2.2.2.2.2.2.2.2.2.2.2.2.2.2.2.2.2.2.2.2.2.2.2.2.2.2.2.2.2.1, o2.2.2.2.2.2.2.2.2.2.2.2.2.2.2.2.2.2.2.2.2.2.2.2.2.2.2.2.2.2.2.2.2.2.1, o2.2.2.2.2.2.2.2.2.2.2.2.2.2.2.2.2.2.2.2.2.2.2.2.2.2.2.2.2.2.2.2.2.2.2.1, o2.2.2.2.2.2.2.2.2.2.2.2.2.2.2.2.2.2.2.2.2.2.2.2.2.2.2.2.2.2.2.2.2.2.2.2.1, o2.2.2.2.2.2.2.2.2.2.2.2.2.2.2.2.2.2.2.2.2.2.2.2.2.2.2.2.2.2.2.2.2.2.2.2.2.1, o2.2.2.2.2.2.2.2.2.2.2.2.2.2.2.2.2.2.2.2.2.2.2.2.2.2.2.2.2.2.2.2.2.2.2.2.2.2.1, o2.2.2.2.2.2.2.2.2.2.2.2.2.2.2.2.2.2.2.2.2.2.2.2.2.2.2.2.2.2.2.2.2.2.2.2.2.2.2.1, o2.2.2.2.2.2.2.2.2.2.2.2.2.2.2.2.2.2.2.2.2.2.2.2.2.2.2.2.2.2.2.2.2.2.2.2.2.2.2.2))
 else
 (bif (x2 == 20) then
 Option.bind (ref09_number x0 4) fun (y13 : ref09_In × Int) =>
 Option.bind (ref09_raw y13.1 y13.2) fun (y14 : ref09_In × Str) =>
 some (.fall (y14.1, x1.Kind_, x1.Tag_, x1.Fid_, x1.NewFid_, x1.AuthFid_, x1.OldTag_, x1.Msize_, x1.Version_, x1.User_, x1.Attach_, x1.Qid_.Type_, x1.Qid_.Vers_, x1.Qid_.Path_, x1.Iounit_, x1.Mode_, x1.Perm_, x1.Name_, x1.Offset_, x1.Count_, y14.2, x1.Stat_.Type_, x1.Stat_.Dev_, x1.Stat_.Qid_.Type_, x1.Stat_.Qid_.Vers_, x1.Stat_.Qid_.Path_, x1.Stat_.Mode_, x1.Stat_.Atime_, x1.Stat_.Mtime_, x1.Stat_.Length_, x1.Stat_.Name_, x1.Stat_.Uid_, x1.Stat_.Gid_, x1.Stat_.Muid_, x1.Err_, x1.Lease_, x1.Term_, x1.Session_, x1.Names_, x1.Qids_))
 else
 (bif (x2 == 21) then
 Option.bind (ref09_number x0 2) fun (y15 : ref09_In × Int) =>
 Option.bind (ref09_raw y15.1 y15.2) fun (y16 : ref09_In × Str) =>
 Option.bind (ref07_Get y16.2 0) fun (y17 : api_Dir × Int × Int) =>
 some (.ret (((ref09_In.mk y16.1.S_ ((y16.1.Bad_ || (y17.2.2 != 0)) || (y17.2.1 != y15.2))), (api_Msg.mk x1.Kind_ x1.Tag_ x1.Fid_ x1.NewFid_ x1.AuthFid_ x1.OldTag_ x1.Msize_ x1.Version_ x1.User_ x1.Attach_ x1.Names_ x1.Qids_ x1.Qid_ x1.Iounit_ x1.Mode_ x1.Perm_ x1.Name_ x1.Offset_ x1.Count_ x1.Data_ y17.1 x1.Err_ x1.Lease_ x1.Term_ x1.Session_))))
 else
 some (.fall (x0, x1.Kind_, x1.Tag_, x1.Fid_, x1.NewFid_, x1.AuthFid_, x1.OldTag_, x1.Msize_, x1.Version_, x1.User_, x1.Attach_, x1.Qid_.Type_, x1.Qid_.Vers_, x1.Qid_.Path_, x1.Iounit_, x1.Mode_, x1.Perm_, x1.Name_, x1.Offset_, x1.Count_, x1.Data_, x1.Stat_.Type_, x1.Stat_.Dev_, x1.Stat_.Qid_.Type_, x1.Stat_.Qid_.Vers_, x1.Stat_.Qid_.Path_, x1.Stat_.Mode_, x1.Stat_.Atime_, x1.Stat_.Mtime_, x1.Stat_.Length_, x1.Stat_.Name_, x1.Stat_.Uid_, x1.Stat_.Gid_, x1.Stat_.Muid_, x1.Err_, x1.Lease_, x1.Term_, x1.Session_, x1.Names_, x1.Qids_)))))))
 ) fun (wo3 : Out (ref09_In × Int × Int × Int × Int × Int × Int × Int × Str × Str × Str × Int × Int × Int × Int × Int × Int × Str × Int × Int × Str × Int × Int × Int × Int × Int × Int × Int × Int × Int × Str × Str × Str × Str × Int × Int × Int × Str × (List Str) × (List api_Qid)) (ref09_In × api_Msg)) => match wo3 with
 | .ret r3 => some r3
 | .fall o3 =>
 some ((o3.1, (api_Msg.mk o3.2.1 o3.2.2.1 o3.2.2.2.1 o3.2.2.2.2.1 o3.2.2.2.2.2.1 o3.2.2.2.2.2.2.1 o3.2.2.2.2.2.2.2.1 o3.2.2.2.2.2.2.2.2.1 o3.2.2.2.2.2.2.2.2.2.1 o3.2.2.2.2.2.2.2.2.2.2.1 o3.2.2.2.2.2.2.2.2.2.2.2.2.2.2.2.2.2.2.2.2.2.2.2.2.2.2.2.2.2.2.2.2.2.2.2.2.2.2.1 o3.2.2.2.2.2.2.2.2.2.2.2.2.2.2.2.2.2.2.2.2.2.2.2.2.2.2.2.2.2.2.2.2.2.2.2.2.2.2.2 (api_Qid.mk o3.2.2.2.2.2.2.2.2.2.2.2.1 o3.2.2.2.2.2.2.2.2.2.2.2.2.1 o3.2.2.2.2.2.2.2.2.2.2.2.2.2.1) o3.2.2.2.2.2.2.2.2.2.2.2.2.2.2.1 o3.2.2.2.2.2.2.2.2.2.2.2.2.2.2.2.1 o3.2.2.2.2.2.2.2.2.2.2.2.2.2.2.2.2.1 o3.2.2.2.2.2.2.2.2.2.2.2.2.2.2.2.2.2.1 o3.2.2.2.2.2.2.2.2.2.2.2.2.2.2.2.2.2.2.1 o3.2.2.2.2.2.2.2.2.2.2.2.2.2.2.2.2.2.2.2.1 o3.2.2.2.2.2.2.2.2.2.2.2.2.2.2.2.2.2.2.2.2.1 (api_Dir.mk o3.2.2.2.2.2.2.2.2.2.2.2.2.2.2.2.2.2.2.2.2.2.1 o3.2.2.2.2.2.2.2.2.2.2.2.2.2.2.2.2.2.2.2.2.2.2.1 (api_Qid.mk o3.2.2.2.2.2.2.2.2.2.2.2.2.2.2.2.2.2.2.2.2.2.2.2.1 o3.2.2.2.2.2.2.2.2.2.2.2.2.2.2.2.2.2.2.2.2.2.2.2.2.1 o3.2.2.2.2.2.2.2.2.2.2.2.2.2.2.2.2.2.2.2.2.2.2.2.2.2.1) o3.2.2.2.2.2.2.2.2.2.2.2.2.2.2.2.2.2.2.2.2.2.2.2.2.2.2.1 o3.2.2.2.2.2.2.2.2.2.2.2.2.2.2.2.2.2.2.2.2.2.2.2.2.2.2.2.1 o3.2.2.2.2.2.2.2.2.2.2.2.2.2.2.2.2.2.2.2.2.2.2.2.2.2.2.2.2.1 o3.2.2.2.2.2.2.2.2.2.2.2.2.2.2.2.2.2.2.2.2.2.2.2.2.2.2.2.2.2.1 o3.2.2.2.2.2.2.2.2.2.2.2.2.2.2.2.2.2.2.2.2.2.2.2.2.2.2.2.2.2.2.1 o3.2.2.2.2.2.2.2.2.2.2.2.2.2.2.2.2.2.2.2.2.2.2.2.2.2.2.2.2.2.2.2.1 o3.2.2.2.2.2.2.2.2.2.2.2.2.2.2.2.2.2.2.2.2.2.2.2.2.2.2.2.2.2.2.2.2.1 o3.2.2.2.2.2.2.2.2.2.2.2.2.2.2.2.2.2.2.2.2.2.2.2.2.2.2.2.2.2.2.2.2.2.1) o3.2.2.2.2.2.2.2.2.2.2.2.2.2.2.2.2.2.2.2.2.2.2.2.2.2.2.2.2.2.2.2.2.2.2.1 o3.2.2.2.2.2.2.2.2.2.2.2.2.2.2.2.2.2.2.2.2.2.2.2.2.2.2.2.2.2.2.2.2.2.2.2.1 o3.2.2.2.2.2.2.2.2.2.2.2.2.2.2.2.2.2.2.2.2.2.2.2.2.2.2.2.2.2.2.2.2.2.2.2.2.1 o3.2.2.2.2.2.2.2.2.2.2.2.2.2.2.2.2.2.2.2.2.2.2.2.2.2.2.2.2.2.2.2.2.2.2.2.2.2.1)))
def ref09_read (x0 : ref09_In) (x1 : api_Msg) (x2 : Int) : Option (ref09_In × api_Msg) :=
 Option.bind (
 (bif (x2 == 1) then
 Option.bind (ref09_number x0 4) fun (y1 : ref09_In × Int) =>
 some (.fall (y1.1, x1.Kind_, x1.Tag_, x1.Fid_, x1.NewFid_, x1.AuthFid_, x1.OldTag_, y1.2, x1.Version_, x1.User_, x1.Attach_, x1.Qid_.Type_, x1.Qid_.Vers_, x1.Qid_.Path_, x1.Iounit_, x1.Mode_, x1.Perm_, x1.Name_, x1.Offset_, x1.Count_, x1.Data_, x1.Stat_.Type_, x1.Stat_.Dev_, x1.Stat_.Qid_.Type_, x1.Stat_.Qid_.Vers_, x1.Stat_.Qid_.Path_, x1.Stat_.Mode_, x1.Stat_.Atime_, x1.Stat_.Mtime_, x1.Stat_.Length_, x1.Stat_.Name_, x1.Stat_.Uid_, x1.Stat_.Gid_, x1.Stat_.Muid_, x1.Err_, x1.Lease_, x1.Term_, x1.Session_, x1.Names_, x1.Qids_))
 else
 (bif (x2 == 2) then
 Option.bind (ref09_counted x0) fun (y2 : ref09_In × Str) =>
 some (.fall (y2.1, x1.Kind_, x1.Tag_, x1.Fid_, x1.NewFid_, x1.AuthFid_, x1.OldTag_, x1.Msize_, y2.2, x1.User_, x1.Attach_, x1.Qid_.Type_, x1.Qid_.Vers_, x1.Qid_.Path_, x1.Iounit_, x1.Mode_, x1.Perm_, x1.Name_, x1.Offset_, x1.Count_, x1.Data_, x1.Stat_.Type_, x1.Stat_.Dev_, x1.Stat_.Qid_.Type_, x1.Stat_.Qid_.Vers_, x1.Stat_.Qid_.Path_, x1.Stat_.Mode_, x1.Stat_.Atime_, x1.Stat_.Mtime_, x1.Stat_.Length_, x1.Stat_.Name_, x1.Stat_.Uid_, x1.Stat_.Gid_, x1.Stat_.Muid_, x1.Err_, x1.Lease_, x1.Term_, x1.Session_, x1.Names_, x1.Qids_))
 else
 (bif (x2 == 3) then
 Option.bind (ref09_counted x0) fun (y3 : ref09_In × Str) =>
 some (.fall (y3.1, x1.Kind_, x1.Tag_, x1.Fid_, x1.NewFid_, x1.AuthFid_, x1.OldTag_, x1.Msize_, x1.Version_, x1.User_, x1.Attach_, x1.Qid_.Type_, x1.Qid_.Vers_, x1.Qid_.Path_, x1.Iounit_, x1.Mode_, x1.Perm_, x1.Name_, x1.Offset_, x1.Count_, x1.Data_, x1.Stat_.Type_, x1.Stat_.Dev_, x1.Stat_.Qid_.Type_, x1.Stat_.Qid_.Vers_, x1.Stat_.Qid_.Path_, x1.Stat_.Mode_, x1.Stat_.Atime_, x1.Stat_.Mtime_, x1.Stat_.Length_, x1.Stat_.Name_, x1.Stat_.Uid_, x1.Stat_.Gid_, x1.Stat_.Muid_, x1.Err_, x1.Lease_, x1.Term_, y3.2, x1.Names_, x1.Qids_))
 else
 (bif (x2 == 4) then
 Option.bind (ref09_number x0 4) fun (y4 : ref09_In × Int) =>
 some (.fall (y4.1, x1.Kind_, x1.Tag_, x1.Fid_, x1.NewFid_, y4.2, x1.OldTag_, x1.Msize_, x1.Version_, x1.User_, x1.Attach_, x1.Qid_.Type_, x1.Qid_.Vers_, x1.Qid_.Path_, x1.Iounit_, x1.Mode_, x1.Perm_, x1.Name_, x1.Offset_, x1.Count_, x1.Data_, x1.Stat_.Type_, x1.Stat_.Dev_, x1.Stat_.Qid_.Type_, x1.Stat_.Qid_.Vers_, x1.Stat_.Qid_.Path_, x1.Stat_.Mode_, x1.Stat_.Atime_, x1.Stat_.Mtime_, x1.Stat_.Length_, x1.Stat_.Name_, x1.Stat_.Uid_, x1.Stat_.Gid_, x1.Stat_.Muid_, x1.Err_, x1.Lease_, x1.Term_, x1.Session_, x1.Names_, x1.Qids_))
 else
 (bif (x2 == 5) then
 Option.bind (ref09_counted x0) fun (y5 : ref09_In × Str) =>
 some (.fall (y5.1, x1.Kind_, x1.Tag_, x1.Fid_, x1.NewFid_, x1.AuthFid_, x1.OldTag_, x1.Msize_, x1.Version_, y5.2, x1.Attach_, x1.Qid_.Type_, x1.Qid_.Vers_, x1.Qid_.Path_, x1.Iounit_, x1.Mode_, x1.Perm_, x1.Name_, x1.Offset_, x1.Count_, x1.Data_, x1.Stat_.Type_, x1.Stat_.Dev_, x1.Stat_.Qid_.Type_, x1.Stat_.Qid_.Vers_, x1.Stat_.Qid_.Path_, x1.Stat_.Mode_, x1.Stat_.Atime_, x1.Stat_.Mtime_, x1.Stat_.Length_, x1.Stat_.Name_, x1.Stat_.Uid_, x1.Stat_.Gid_, x1.Stat_.Muid_, x1.Err_, x1.Lease_, x1.Term_, x1.Session_, x1.Names_, x1.Qids_))
 else
 (bif (x2 == 6) then
 Option.bind (ref09_counted x0) fun (y6 : ref09_In × Str) =>
 some (.fall (y6.1, x1.Kind_, x1.Tag_, x1.Fid_, x1.NewFid_, x1.AuthFid_, x1.OldTag_, x1.Msize_, x1.Version_, x1.User_, y6.2, x1.Qid_.Type_, x1.Qid_.Vers_, x1.Qid_.Path_, x1.Iounit_, x1.Mode_, x1.Perm_, x1.Name_, x1.Offset_, x1.Count_, x1.Data_, x1.Stat_.Type_, x1.Stat_.Dev_, x1.Stat_.Qid_.Type_, x1.Stat_.Qid_.Vers_, x1.Stat_.Qid_.Path_, x1.Stat_.Mode_, x1.Stat_.Atime_, x1.Stat_.Mtime_, x1.Stat_.Length_, x1.Stat_.Name_, x1.Stat_.Uid_, x1.Stat_.Gid_, x1.Stat_.Muid_, x1.Err_, x1.Lease_, x1.Term_, x1.Session_, x1.Names_, x1.Qids_))
 else
 (bif (x2 == 7) then
 Option.bind (ref09_getQid x0) fun (y7 : ref09_In × api_Qid) =>
 some (.fall (y7.1, x1.Kind_, x1.Tag_, x1.Fid_, x1.NewFid_, x1.AuthFid_, x1.OldTag_, x1.Msize_, x1.Version_, x1.User_, x1.Attach_, y7.2.Type_, y7.2.Vers_, y7.2.Path_, x1.Iounit_, x1.Mode_, x1.Perm_, x1.Name_, x1.Offset_, x1.Count_, x1.Data_, x1.Stat_.Type_, x1.Stat_.Dev_, x1.Stat_.Qid_.Type_, x1.Stat_.Qid_.Vers_, x1.Stat_.Qid_.Path_, x1.Stat_.Mode_, x1.Stat_.Atime_, x1.Stat_.Mtime_, x1.Stat_.Length_, x1.Stat_.Name_, x1.Stat_.Uid_, x1.Stat_.Gid_, x1.Stat_.Muid_, x1.Err_, x1.Lease_, x1.Term_, x1.Session_, x1.Names_, x1.Qids_))
 else
 (bif (x2 == 8) then
 Option.bind (ref09_number x0 4) fun (y8 : ref09_In × Int) =>
 some (.fall (y8.1, x1.Kind_, x1.Tag_, y8.2, x1.NewFid_, x1.AuthFid_, x1.OldTag_, x1.Msize_, x1.Version_, x1.User_, x1.Attach_, x1.Qid_.Type_, x1.Qid_.Vers_, x1.Qid_.Path_, x1.Iounit_, x1.Mode_, x1.Perm_, x1.Name_, x1.Offset_, x1.Count_, x1.Data_, x1.Stat_.Type_, x1.Stat_.Dev_, x1.Stat_.Qid_.Type_, x1.Stat_.Qid_.Vers_, x1.Stat_.Qid_.Path_, x1.Stat_.Mode_, x1.Stat_.Atime_, x1.Stat_.Mtime_, x1.Stat_.Length_, x1.Stat_.Name_, x1.Stat_.Uid_, x1.Stat_.Gid_, x1.Stat_.Muid_, x1.Err_, x1.Lease_, x1.Term_, x1.Session_, x1.Names_, x1.Qids_))
 else
 (bif (x2 == 10) then
 Option.bind (ref09_number x0 2) fun (y9 : ref09_In × Int) =>
 some (.fall (y9.1, x1.Kind_, x1.Tag_, x1.Fid_, x1.NewFid_, x1.AuthFid_, y9.2, x1.Msize_, x1.Version_, x1.User_, x1.Attach_, x1.Qid_.Type_, x1.Qid_.Vers_, x1.Qid_.Path_, x1.Iounit_, x1.Mode_, x1.Perm_, x1.Name_, x1.Offset_, x1.Count_, x1.Data_, x1.Stat_.Type_, x1.Stat_.Dev_, x1.Stat_.Qid_.Type_, x1.Stat_.Qid_.Vers_, x1.Stat_.Qid_.Path_, x1.Stat_.Mode_, x1.Stat_.Atime_, x1.Stat_.Mtime_, x1.Stat_.Length_, x1.Stat_.Name_, x1.Stat_.Uid_, x1.Stat_.Gid_, x1.Stat_.Muid_, x1.Err_, x1.Lease_, x1.Term_, x1.Session_, x1.Names_, x1.Qids_))
 else
 (bif (x2 == 11) then
 Option.bind (ref09_number x0 4) fun (y10 : ref09_In × Int) =>
 some (.fall (y10.1, x1.Kind_, x1.Tag_, x1.Fid_, y10.2, x1.AuthFid_, x1.OldTag_, x1.Msize_, x1.Version_, x1.User_, x1.Attach_, x1.Qid_.Type_, x1.Qid_.Vers_, x1.Qid_.Path_, x1.Iounit_, x1.Mode_, x1.Perm_, x1.Name_, x1.Offset_, x1.Count_, x1.Data_, x1.Stat_.Type_, x1.Stat_.Dev_, x1.Stat_.Qid_.Type_, x1.Stat_.Qid_.Vers_, x1.Stat_.Qid_.Path_, x1.Stat_.Mode_, x1.Stat_.Atime_, x1.Stat_.Mtime_, x1.Stat_.Length_, x1.Stat_.Name_, x1.Stat_.Uid_, x1.Stat_.Gid_, x1.Stat_.Muid_, x1.Err_, x1.Lease_, x1.Term_, x1.Session_, x1.Names_, x1.Qids_))
 else
 (bif (x2 == 14) then
 Option.bind (ref09_number x0 1) fun (y11 : ref09_In × Int) =>
 some (.fall (y11.1, x1.Kind_, x1.Tag_, x1.Fid_, x1.NewFid_, x1.AuthFid_, x1.OldTag_, x1.Msize_, x1.Version_, x1.User_, x1.Attach_, x1.Qid_.Type_, x1.Qid_.Vers_, x1.Qid_.Path_, x1.Iounit_, y11.2, x1.Perm_, x1.Name_, x1.Offset_, x1.Count_, x1.Data_, x1.Stat_.Type_, x1.Stat_.Dev_, x1.Stat_.Qid_.Type_, x1.Stat_.Qid_.Vers_, x1.Stat_.Qid_.Path_, x1.Stat_.Mode_, x1.Stat_.Atime_, x1.Stat_.Mtime_, x1.Stat_.Length_, x1.Stat_.Name_, x1.Stat_.Uid_, x1.Stat_.Gid_, x1.Stat_.Muid_, x1.Err_, x1.Lease_, x1.Term_, x1.Session_, x1.Names_, x1.Qids_))
 else
 (bif (x2 == 15) then
 Option.bind (ref09_number x0 4) fun (y12 : ref09_In × Int) =>
 some (.fall (y12.1, x1.Kind_, x1.Tag_, x1.Fid_, x1.NewFid_, x1.AuthFid_, x1.OldTag_, x1.Msize_, x1.Version_, x1.User_, x1.Attach_, x1.Qid_.Type_, x1.Qid_.Vers_, x1.Qid_.Path_, y12.2, x1.Mode_, x1.Perm_, x1.Name_, x1.Offset_, x1.Count_, x1.Data_, x1.Stat_.Type_, x1.Stat_.Dev_, x1.Stat_.Qid_.Type_, x1.Stat_.Qid_.Vers_, x1.Stat_.Qid_.Path_, x1.Stat_.Mode_, x1.Stat_.Atime_, x1.Stat_.Mtime_, x1.Stat_.Length_, x1.Stat_.Name_, x1.Stat_.Uid_, x1.Stat_.Gid_, x1.Stat_.Muid_, x1.Err_, x1.Lease_, x1.Term_, x1.Session_, x1.Names_, x1.Qids_))
 else
 (bif (x2 == 16) then
 Option.bind (ref09_counted x0) fun (y13 : ref09_In × Str) =>
 some (.fall (y13.1, x1.Kind_, x1.Tag_, x1.Fid_, x1.NewFid_, x1.AuthFid_, x1.OldTag_, x1.Msize_, x1.Version_, x1.User_, x1.Attach_, x1.Qid_.Type_, x1.Qid_.Vers_, x1.Qid_.Path_, x1.Iounit_, x1.Mode_, x1.Perm_, y13.2, x1.Offset_, x1.Count_, x1.Data_, x1.Stat_.Type_, x1.Stat_.Dev_, x1.Stat_.Qid_.Type_, x1.Stat_.Qid_.Vers_, x1.Stat_.Qid_.Path_, x1.Stat_.Mode_, x1.Stat_.Atime_, x1.Stat_.Mtime_, x1.Stat_.Length_, x1.Stat_.Name_, x1.Stat_.Uid_, x1.Stat_.Gid_, x1.Stat_.Muid_, x1.Err_, x1.Lease_, x1.Term_, x1.Session_, x1.Names_, x1.Qids_))
 else
 (bif (x2 == 17) then
 Option.bind (ref09_number x0 4) fun (y14 : ref09_In × Int) =>
 some (.fall (y14.1, x1.Kind_, x1.Tag_, x1.Fid_, x1.NewFid_, x1.AuthFid_, x1.OldTag_, x1.Msize_, x1.Version_, x1.User_, x1.Attach_, x1.Qid_.Type_, x1.Qid_.Vers_, x1.Qid_.Path_, x1.Iounit_, x1.Mode_, y14.2, x1.Name_, x1.Offset_, x1.Count_, x1.Data_, x1.Stat_.Type_, x1.Stat_.Dev_, x1.Stat_.Qid_.Type_, x1.Stat_.Qid_.Vers_, x1.Stat_.Qid_.Path_, x1.Stat_.Mode_, x1.Stat_.Atime_, x1.Stat_.Mtime_, x1.Stat_.Length_, x1.Stat_.Name_, x1.Stat_.Uid_, x1.Stat_.Gid_, x1.Stat_.Muid_, x1.Err_, x1.Lease_, x1.Term_, x1.Session_, x1.Names_, x1.Qids_))
 else
 (bif (x2 == 18) then
 Option.bind (ref09_number x0 8) fun (y15 : ref09_In × Int) =>
 some (.fall (y15.1, x1.Kind_, x1.Tag_, x1.Fid_, x1.NewFid_, x1.AuthFid_, x1.OldTag_, x1.Msize_, x1.Version_, x1.User_, x1.Attach_, x1.Qid_.Type_, x1.Qid_.Vers_, x1.Qid_.Path_, x1.Iounit_, x1.Mode_, x1.Perm_, x1.Name_, y15.2, x1.Count_, x1.Data_, x1.Stat_.Type_, x1.Stat_.Dev_, x1.Stat_.Qid_.Type_, x1.Stat_.Qid_.Vers_, x1.Stat_.Qid_.Path_, x1.Stat_.Mode_, x1.Stat_.Atime_, x1.Stat_.Mtime_, x1.Stat_.Length_, x1.Stat_.Name_, x1.Stat_.Uid_, x1.Stat_.Gid_, x1.Stat_.Muid_, x1.Err_, x1.Lease_, x1.Term_, x1.Session_, x1.Names_, x1.Qids_))
 else
 (bif (x2 == 19) then
 Option.bind (ref09_number x0 4) fun (y16 : ref09_In × Int) =>
 some (.fall (y16.1, x1.Kind_, x1.Tag_, x1.Fid_, x1.NewFid_, x1.AuthFid_, x1.OldTag_, x1.Msize_, x1.Version_, x1.User_, x1.Attach_, x1.Qid_.Type_, x1.Qid_.Vers_, x1.Qid_.Path_, x1.Iounit_, x1.Mode_, x1.Perm_, x1.Name_, x1.Offset_, y16.2, x1.Data_, x1.Stat_.Type_, x1.Stat_.Dev_, x1.Stat_.Qid_.Type_, x1.Stat_.Qid_.Vers_, x1.Stat_.Qid_.Path_, x1.Stat_.Mode_, x1.Stat_.Atime_, x1.Stat_.Mtime_, x1.Stat_.Length_, x1.Stat_.Name_, x1.Stat_.Uid_, x1.Stat_.Gid_, x1.Stat_.Muid_, x1.Err_, x1.Lease_, x1.Term_, x1.Session_, x1.Names_, x1.Qids_))
 else
 (bif (x2 == 22) then
 Option.bind (ref09_number x0 1) fun (y17 : ref09_In × Int) =>
 some (.fall (y17.1, x1.Kind_, x1.Tag_, x1.Fid_, x1.NewFid_, x1.AuthFid_, x1.OldTag_, x1.Msize_, x1.Version_, x1.User_, x1.Attach_, x1.Qid_.Type_, x1.Qid_.Vers_, x1.Qid_.Path_, x1.Iounit_, x1.Mode_, x1.Perm_, x1.Name_, x1.Offset_, x1.Count_, x1.Data_, x1.Stat_.Type_, x1.Stat_.Dev_, x1.Stat_.Qid_.Type_, x1.Stat_.Qid_.Vers_, x1.Stat_.Qid_.Path_, x1.Stat_.Mode_, x1.Stat_.Atime_, x1.Stat_.Mtime_, x1.Stat_.Length_, x1.Stat_.Name_, x1.Stat_.Uid_, x1.Stat_.Gid_, x1.Stat_.Muid_, x1.Err_, y17.2, x1.Term_, x1.Session_, x1.Names_, x1.Qids_))
 else
 (bif (x2 == 23) then
 Option.bind (ref09_number x0 4) fun (y18 : ref09_In × Int) =>
 some (.fall (y18.1, x1.Kind_, x1.Tag_, x1.Fid_, x1.NewFid_, x1.AuthFid_, x1.OldTag_, x1.Msize_, x1.Version_, x1.User_, x1.Attach_, x1.Qid_.Type_, x1.Qid_.Vers_, x1.Qid_.Path_, x1.Iounit_, x1.Mode_, x1.Perm_, x1.Name_, x1.Offset_, x1.Count_, x1.Data_, x1.Stat_.Type_, x1.Stat_.Dev_, x1.Stat_.Qid_.Type_, x1.Stat_.Qid_.Vers_, x1.Stat_.Qid_.Path_, x1.Stat_.Mode_, x1.Stat_.Atime_, x1.Stat_.Mtime_, x1.Stat_.Length_, x1.Stat_.Name_, x1.Stat_.Uid_, x1.Stat_.Gid_, x1.Stat_.Muid_, x1.Err_, x1.Lease_, y18.2, x1.Session_, x1.Names_, x1.Qids_))
 else
 Option.bind (ref09_readList x0 x1 x2) fun (y19 : ref09_In × api_Msg) =>
 some (.ret ((y19.1, y19.2)))))))))))))))))))))
 ) fun (wo1 : Out (ref09_In × Int × Int × Int × Int × Int × Int × Int × Str × Str × Str × Int × Int × Int × Int × Int × Int × Str × Int × Int × Str × Int × Int × Int × Int × Int × Int × Int × Int × Int × Str × Str × Str × Str × Int × Int × Int × Str × (List Str) × (List api_Qid)) (ref09_In × api_Msg)) => match wo1 with
 | .ret r1 => some r1
 | .fall o1 =>
 some ((o1.1, (api_Msg.mk o1.2.1 o1.2.2.1 o1.2.2.2.1 o1.2.2.2.2.1 o1.2.2.2.2.2.1 o1.2.2.2.2.2.2.1 o1.2.2.2.2.2.2.2.1 o1.2.2.2.2.2.2.2.2.1 o1.2.2.2.2.2.2.2.2.2.1 o1.2.2.2.2.2.2.2.2.2.2.1 o1.2.2.2.2.2.2.2.2.2.2.2.2.2.2.2.2.2.2.2.2.2.2.2.2.2.2.2.2.2.2.2.2.2.2.2.2.2.2.1 o1.2.2.2.2.2.2.2.2.2.2.2.2.2.2.2.2.2.2.2.2.2.2.2.2.2.2.2.2.2.2.2.2.2.2.2.2.2.2.2 (api_Qid.mk o1.2.2.2.2.2.2.2.2.2.2.2.1 o1.2.2.2.2.2.2.2.2.2.2.2.2.1 o1.2.2.2.2.2.2.2.2.2.2.2.2.2.1) o1.2.2.2.2.2.2.2.2.2.2.2.2.2.2.1 o1.2.2.2.2.2.2.2.2.2.2.2.2.2.2.2.1 o1.2.2.2.2.2.2.2.2.2.2.2.2.2.2.2.2.1 o1.2.2.2.2.2.2.2.2.2.2.2.2.2.2.2.2.2.1 o1.2.2.2.2.2.2.2.2.2.2.2.2.2.2.2.2.2.2.1 o1.2.2.2.2.2.2.2.2.2.2.2.2.2.2.2.2.2.2.2.1 o1.2.2.2.2.2.2.2.2.2.2.2.2.2.2.2.2.2.2.2.2.1 (api_Dir.mk o1.2.2.2.2.2.2.2.2.2.2.2.2.2.2.2.2.2.2.2.2.2.1 o1.2.2.2.2.2.2.2.2.2.2.2.2.2.2.2.2.2.2.2.2.2.2.1 (api_Qid.mk o1.2.2.2.2.2.2.2.2.2.2.2.2.2.2.2.2.2.2.2.2.2.2.2.1 o1.2.2.2.2.2.2.2.2.2.2.2.2.2.2.2.2.2.2.2.2.2.2.2.2.1 o1.2.2.2.2.2.2.2.2.2.2.2.2.2.2.2.2.2.2.2.2.2.2.2.2.2.1) o1.2.2.2.2.2.2.2.2.2.2.2.2.2.2.2.2.2.2.2.2.2.2.2.2.2.2.1 o1.2.2.2.2.2.2.2.2.2.2.2.2.2.2.2.2.2.2.2.2.2.2.2.2.2.2.2.1 o1.2.2.2.2.2.2.2.2.2.2.2.2.2.2.2.2.2.2.2.2.2.2.2.2.2.2.2.2.1 o1.2.2.2.2.2.2.2.2.2.2.2.2.2.2.2.2.2.2.2.2.2.2.2.2.2.2.2.2.2.1 o1.2.2.2.2.2.2.2.2.2.2.2.2.2.2.2.2.2.2.2.2.2.2.2.2.2.2.2.2.2.2.1 o1.2.2.2.2.2.2.2.2.2.2.2.2.2.2.2.2.2.2.2.2.2.2.2.2.2.2.2.2.2.2.2.1 o1.2.2.2.2.2.2.2.2.2.2.2.2.2.2.2.2.2.2.2.2.2.2.2.2.2.2.2.2.2.2.2.2.1 o1.2.2.2.2.2.2.2.2.2.2.2.2.2.2.2.2.2.2.2.2.2.2.2.2.2.2.2.2.2.2.2.2.2.1) o1.2.2.2.2.2.2.2.2.2.2.2.2.2.2.2.2.2.2.2.2.2.2.2.2.2.2.2.2.2.2.2.2.2.2.1 o1.2.2.2.2.2.2.2.2.2.2.2.2.2.2.2.2.2.2.2.2.2.2.2.2.2.2.2.2.2.2.2.2.2.2.2.1 o1.2.2.2.2.2.2.2.2.2.2.2.2.2.2.2.2.2.2.2.2.2.2.2.2.2.2.2.2.2.2.2.2.2.2.2.2.1 o1.2.2.2.2.2.2.2.2.2.2.2.2.2.2.2.2.2.2.2.2.2.2.2.2.2.2.2.2.2.2.2.2.2.2.2.2.2.1)))
def ref09_Get_L1 (y5 : (List Int) × Bool) (s2 : Int × Int × Int × Int × Int × Int × Int × Int × Str × Str × Str × Int × Int × Int × Int × Int × Int × Str × Int × Int × Str × Int × Int × Int × Int × Int × Int × Int × Int × Int × Str × Str × Str × Str × Int × Int × Int × Str × (List Str) × (List api_Qid) × ref09_In) : Option (Step (Int × Int × Int × Int × Int × Int × Int × Int × Str × Str × Str × Int × Int × Int × Int × Int × Int × Str × Int × Int × Str × Int × Int × Int × Int × Int × Int × Int × Int × Int × Str × Str × Str × Str × Int × Int × Int × Str × (List Str) × (List api_Qid) × ref09_In) (Int × Int × Int × Int × Int × Int × Int × Str × Str × Str × Int × Int × Int × Int × Int × Int × Str × Int × Int × Str × Int × Int × Int × Int × Int × Int × Int × Int × Int × Str × Str × Str × Str × Int × Int × Int × Str × (List Str) × (List api_Qid) × ref09_In)) :=
 (bif (decide (s2.1 < (y5.1.length : Int))) then
 Option.bind (getI y5.1 s2.1) fun (y8 : Int) =>
 Option.bind (ref09_read s2.2.2.2.2.2.2.2.2.2.2.2.2.2.2.2.2.2.2.2.2.2.2.2.2.2.2.2.2.2.2.2.2.2.2.2.2.2.2.2.2 (api_Msg.mk s2.2.1 s2.2.2.1 s2.2.2.2.1 s2.2.2.2.2.1 s2.2.2.2.2.2.1 s2.2.2.2.2.2.2.1 s2.2.2.2.2.2.2.2.1 s2.2.2.2.2.2.2.2.2.1 s2.2.2.2.2.2.2.2.2.2.1 s2.2.2.2.2.2.2.2.2.2.2.1 s2.2.2.2.2.2.2.2.2.2.2.2.2.2.2.2.2.2.2.2.2.2.2.2.2.2.2.2.2.2.2.2.2.2.2.2.2.2.2.1 s2.2.2.2.2.2.2.2.2.2.2.2.2.2.2.2.2.2.2.2.2.2.2.2.2.2.2.2.2.2.2.2.2.2.2.2.2.2.2.2.1 (api_Qid.mk s2.2.2.2.2.2.2.2.2.2.2.2.1 s2.2.2.2.2.2.2.2.2.2.2.2.2.1 s2.2.2.2.2.2.2.2.2.2.2.2.2.2.1) s2.2.2.2.2.2.2.2.2.2.2.2.2.2.2.1 s2.2.2.2.2.2.2.2.2.2.2.2.2.2.2.2.1 s2.2.2.2.2.2.2.2.2.2.2.2.2.2.2.2.2.1 s2.2.2.2.2.2.2.2.2.2.2.2.2.2.2.2.2.2.1 s2.2.2.2.2.2.2.2.2.2.2.2.2.2.2.2.2.2.2.1 s2.2.2.2.2.2.2.2.2.2.2.2.2.2.2.2.2.2.2.2.1 s2.2.2.2.2.2.2.2.2.2.2.2.2.2.2.2.2.2.2.2.2.1 (api_Dir.mk s2.2.2.2.2.2.2.2.2.2.2.2.2.2.2.2.2.2.2.2.2.2.1 s2.2.2.2.2.2.2.2.2.2.2.2.2.2.2.2.2.2.2.2.2.2.2.1 (api_Qid.mk s2.2.2.2.2.2.2.2.2.2.2.2.2.2.2.2.2.2.2.2.2.2.2.2.1 s2.2.2.2.2.2.2.2.2.2.2.2.2.2.2.2.2.2.2.2.2.2.2.2.2.1 s2.2.2.2.2.2.2.2.2.2.2.2.2.2.2.2.2.2.2.2.2.2.2.2.2.2.1) s2.2.2.2.2.2.2.2.2.2.2.2.2.2.2.2.2.2.2.2.2.2.2.2.2.2.2.1 s2.2.2.2.2.2.2.2.2.2.2.2.2.2.2.2.2.2.2.2.2.2.2.2.2.2.2.2.1 s2.2.2.2.2.2.2.2.2.2.2.2.2.2.2.2.2.2.2.2.2.2.2.2.2.2.2.2.2.1 s2.2.2.2.2.2.2.2.2.2.2.2.2.2.2.2.2.2.2.2.2.2.2.2.2.2.2.2.2.2.1 s2.2.2.2.2.2.2.2.2.2.2.2.2.2.2.2.2.2.2.2.2.2.2.2.2.2.2.2.2.2.2.1 s2.2.2.2.2.2.2.2.2.2.2.2.2.2.2.2.2.2.2.2.2.2.2.2.2.2.2.2.2.2.2.2.1 s2.2.2.2.2.2.2.2.2.2.2.2.2.2.2.2.2.2.2.2.2.2.2.2.2.2.2.2.2.2.2.2.2.1 s2.2.2.2.2.2.2.2.2.2.2.2.2.2.2.2.2.2.2.2.2.2.2.2.2.2.2.2.2.2.2.2.2.2.1) s2.2.2.2.2.2.2.2.2.2.2.2.2.2.2.2.2.2.2.2.2.2.2.2.2.2.2.2.2.2.2.2.2.2.2.1 s2.2.2.2.2.2.2.2.2.2.2.2.2.2.2.2.2.2.2.2.2.2.2.2.2.2.2.2.2.2.2.2.2.2.2.2.1 s2.2.2.2.2.2.2.2.2.2.2.2.2.2.2.2.2.2.2.2.2.2.2.2.2.2.2.2.2.2.2.2.2.2.2.2.2.1 s2.2.2.2.2.2.2.2.2.2.2.2.2.2.2.2.2.2.2.2.2.2.2.2.2.2.2.2.2.2.2.2.2.2.2.2.2.2.1) y8) fun (y9 : ref09_In × api_Msg) =>
 some (.next ((w64 (s2.1 + 1)), y9.2.Kind_, y9.2.Tag_, y9.2.Fid_, y9.2.NewFid_, y9.2.AuthFid_, y9.2.OldTag_, y9.2.Msize_, y9.2.Version_, y9.2.User_, y9.2.Attach_, y9.2.Qid_.Type_, y9.2.Qid_.Vers_, y9.2.Qid_.Path_, y9.2.Iounit_, y9.2.Mode_, y9.2.Perm_, y9.2.Name_, y9.2.Offset_, y9.2.Count_, y9.2.Data_, y9.2.Stat_.Type_, y9.2.Stat_.Dev_, y9.2.Stat_.Qid_.Type_, y9.2.Stat_.Qid_.Vers_, y9.2.Stat_.Qid_.Path_, y9.2.Stat_.Mode_, y9.2.Stat_.Atime_, y9.2.Stat_.Mtime_, y9.2.Stat_.Length_, y9.2.Stat_.Name_, y9.2.Stat_.Uid_, y9.2.Stat_.Gid_, y9.2.Stat_.Muid_, y9.2.Err_, y9.2.Lease_, y9.2.Term_, y9.2.Session_, y9.2.Names_, y9.2.Qids_, y9.1))
 else
 some (.done (s2.2.1, s2.2.2.1, s2.2.2.2.1, s2.2.2.2.2.1, s2.2.2.2.2.2.1, s2.2.2.2.2.2.2.1, s2.2.2.2.2.2.2.2.1, s2.2.2.2.2.2.2.2.2.1, s2.2.2.2.2.2.2.2.2.2.1, s2.2.2.2.2.2.2.2.2.2.2.1, s2.2.2.2.2.2.2.2.2.2.2.2.1, s2.2.2.2.2.2.2.2.2.2.2.2.2.1, s2.2.2.2.2.2.2.2.2.2.2.2.2.2.1, s2.2.2.2.2.2.2.2.2.2.2.2.2.2.2.1, s2.2.2.2.2.2.2.2.2.2.2.2.2.2.2.2.1, s2.2.2.2.2.2.2.2.2.2.2.2.2.2.2.2.2.1, s2.2.2.2.2.2.2.2.2.2.2.2.2.2.2.2.2.2.1, s2.2.2.2.2.2.2.2.2.2.2.2.2.2.2.2.2.2.2.1, s2.2.2.2.2.2.2.2.2.2.2.2.2.2.2.2.2.2.2.2.1, s2.2.2.2.2.2.2.2.2.2.2.2.2.2.2.2.2.2.2.2.2.1, s2.2.2.2.2.2.2.2.2.2.2.2.2.2.2.2.2.2.2.2.2.2.1, s2.2.2.2.2.2.2.2.2.2.2.2.2.2.2.2.2.2.2.2.2.2.2.1, s2.2.2.2.2.2.2.2.2.2.2.2.2.2.2.2.2.2.2.2.2.2.2.2.1, s2.2.2.2.2.2.2.2.2.2.2.2.2.2.2.2.2.2.2.2.2.2.2.2.2.1, s2.2.2.2.2.2.2.2.2.2.2.2.2.2.2.2.2.2.2.2.2.2.2.2.2.2.1, s2.2.2.2.2.2.2.2.2.2.2.2.2.2.2.2.2.2.2.2.2.2.2.2.2.2.2.1, s2.2.2.2.2.2.2.2.2.2.2.2.2.2.2.2.2.2.2.2.2.2.2.2.2.2.2.2.1, s2.2.2.2.2.2.2.2.2.2.2.2.2.2.2.2.2.2.2.2.2.2.2.2.2.2.2.2.2.1, s2.2.2.2.2.2.2.2.2.2.2.2.2.2.2.2.2.2.2.2.2.2.2.2.2.2.2.2.2.2.1, s2.2.2.2.2.2.2.2.2.2.2.2.2.2.2.2.2.2.2.2.2.2.2.2.2.2.2.2.2.2.2.1, s2.2.2.2.2.2.2.2.2.2.2.2.2.2.2.2.2.2.2.2.2.2.2.2.2.2.2.2.2.2.2.2.1, s2.2.2.2.2.2.2.2.2.2.2.2.2.2.2.2.2.2.2.2.2.2.2.2.2.2.2.2.2.2.2.2.2.1, s2.2.2.2.2.2.2.2.2.2.2.2.2.2.2.2.2.2.2.2.2.2.2.2.2.2.2.2.2.2.2.2.2.2.1, s2.2.2.2.2.2.2.2.2.2.2.2.2.2.2.2.2.2.2.2.2.2.2.2.2.2.2.2.2.2.2.2.2.2.2.1, s2.2.2.2.2.2.2.2.2.2.2.2.2.2.2.2.2.2.2.2.2.2.2.2.2.2.2.2.2.2.2.2.2.2.2.2.1, s2.2.2.2.2.2.2.2.2.2.2.2.2.2.2.2.2.2.2.2.2.2.2.2.2.2.2.2.2.2.2.2.2.2.2.2.2.1, s2.2.2.2.2.2.2.2.2.2.2.2.2.2.2.2.2.2.2.2.2.2.2.2.2.2.2.2.2.2.2.2.2.2.2.2.2.2.1, s2.2.2.2.2.2.2.2.2.2.2.2.2.2.2.2.2.2.2.2.2.2.2.2.2.2.2.2.2.2.2.2.2.2.2.2.2.2.2.1, s2.2.2.2.2.2.2.2.2.2.2.2.2.2.2.2.2.2.2.2.2.2.2.2.2.2.2.2.2.2.2.2.2.2.2.2.2.2.2.2.1, s2.2.2.2.2.2.2.2.2.2.2.2.2.2.2.2.2.2.2.2.2.2.2.2.2.2.2.2.2.2.2.2.2.2.2.2.2.2.2.2.2)))
def ref09_Get (x0 : Str) (x1 : Int) : Option (api_Msg × Int × Int) :=
 (bif ((decide (x1 < 0)) || (decide (x1 > (x0.length : Int)))) then
 some (((api_Msg.mk 0 0 0 0 0 0 0 [] [] [] [] [] (api_Qid.mk 0 0 0) 0 0 0 [] 0 0 [] (api_Dir.mk 0 0 (api_Qid.mk 0 0 0) 0 0 0 0 [] [] [] []) 0 0 0 []), 0, 1))
 else
 Option.bind (ref02_Get x0 x1 4) fun (y1 : Int × Int × Int) =>
 (bif (y1.2.2 != 0) then
 some (((api_Msg.mk 0 0 0 0 0 0 0 [] [] [] [] [] (api_Qid.mk 0 0 0) 0 0 0 [] 0 0 [] (api_Dir.mk 0 0 (api_Qid.mk 0 0 0) 0 0 0 0 [] [] [] []) 0 0 0 []), 0, y1.2.2))
 else
 (bif (decide (y1.1 > 8192)) then
 some (((api_Msg.mk 0 0 0 0 0 0 0 [] [] [] [] [] (api_Qid.mk 0 0 0) 0 0 0 [] 0 0 [] (api_Dir.mk 0 0 (api_Qid.mk 0 0 0) 0 0 0 0 [] [] [] []) 0 0 0 []), 0, 4))
 else
 (bif (decide (y1.1 < 7)) then
 some (((api_Msg.mk 0 0 0 0 0 0 0 [] [] [] [] [] (api_Qid.mk 0 0 0) 0 0 0 [] 0 0 [] (api_Dir.mk 0 0 (api_Qid.mk 0 0 0) 0 0 0 0 [] [] [] []) 0 0 0 []), 0, 2))
 else
 (bif (decide (y1.1 > (w64 ((x0.length : Int) - x1)))) then
 some (((api_Msg.mk 0 0 0 0 0 0 0 [] [] [] [] [] (api_Qid.mk 0 0 0) 0 0 0 [] 0 0 [] (api_Dir.mk 0 0 (api_Qid.mk 0 0 0) 0 0 0 0 [] [] [] []) 0 0 0 []), 0, 3))
 else
 Option.bind (subI x0 (w64 (x1 + 4)) (w64 (x1 + y1.1))) fun (y2 : Str) =>
 Option.bind (ref09_number (ref09_In.mk y2 false) 1) fun (y3 : ref09_In × Int) =>
 Option.bind (ref09_number y3.1 2) fun (y4 : ref09_In × Int) =>
 Option.bind (ref09_Fields y3.2) fun (y5 : (List Int) × Bool) =>
 Option.bind (loopF (ref09_Get_L1 y5) BIG (0, y3.2, y4.2, 0, 0, 0, 0, 0, [], [], [], 0, 0, 0, 0, 0, 0, [], 0, 0, [], 0, 0, 0, 0, 0, 0, 0, 0, 0, [], [], [], [], 0, 0, 0, [], [], [], y4.1)) fun (o1 : Int × Int × Int × Int × Int × Int × Int × Str × Str × Str × Int × Int × Int × Int × Int × Int × Str × Int × Int × Str × Int × Int × Int × Int × Int × Int × Int × Int × Int × Str × Str × Str × Str × Int × Int × Int × Str × (List Str) × (List api_Qid) × ref09_In) =>
 (bif (((!y5.2) || o1.2.2.2.2.2.2.2.2.2.2.2.2.2.2.2.2.2.2.2.2.2.2.2.2.2.2.2.2.2.2.2.2.2.2.2.2.2.2.2.Bad_) || (!(o1.2.2.2.2.2.2.2.2.2.2.2.2.2.2.2.2.2.2.2.2.2.2.2.2.2.2.2.2.2.2.2.2.2.2.2.2.2.2.2.S_ == []))) then
 some (((api_Msg.mk 0 0 0 0 0 0 0 [] [] [] [] [] (api_Qid.mk 0 0 0) 0 0 0 [] 0 0 [] (api_Dir.mk 0 0 (api_Qid.mk 0 0 0) 0 0 0 0 [] [] [] []) 0 0 0 []), 0, 2))
 else
 Option.bind (ref08_Check (api_Msg.mk o1.1 o1.2.1 o1.2.2.1 o1.2.2.2.1 o1.2.2.2.2.1 o1.2.2.2.2.2.1 o1.2.2.2.2.2.2.1 o1.2.2.2.2.2.2.2.1 o1.2.2.2.2.2.2.2.2.1 o1.2.2.2.2.2.2.2.2.2.1 o1.2.2.2.2.2.2.2.2.2.2.2.2.2.2.2.2.2.2.2.2.2.2.2.2.2.2.2.2.2.2.2.2.2.2.2.2.2.1 o1.2.2.2.2.2.2.2.2.2.2.2.2.2.2.2.2.2.2.2.2.2.2.2.2.2.2.2.2.2.2.2.2.2.2.2.2.2.2.1 (api_Qid.mk o1.2.2.2.2.2.2.2.2.2.2.1 o1.2.2.2.2.2.2.2.2.2.2.2.1 o1.2.2.2.2.2.2.2.2.2.2.2.2.1) o1.2.2.2.2.2.2.2.2.2.2.2.2.2.1 o1.2.2.2.2.2.2.2.2.2.2.2.2.2.2.1 o1.2.2.2.2.2.2.2.2.2.2.2.2.2.2.2.1 o1.2.2.2.2.2.2.2.2.2.2.2.2.2.2.2.2.1 o1.2.2.2.2.2.2.2.2.2.2.2.2.2.2.2.2.2.1 o1.2.2.2.2.2.2.2.2.2.2.2.2.2.2.2.2.2.2.1 o1.2.2.2.2.2.2.2.2.2.2.2.2.2.2.2.2.2.2.2.1 (api_Dir.mk o1.2.2.2.2.2.2.2.2.2.2.2.2.2.2.2.2.2.2.2.2.1 o1.2.2.2.2.2.2.2.2.2.2.2.2.2.2.2.2.2.2.2.2.2.1 (api_Qid.mk o1.2.2.2.2.2.2.2.2.2.2.2.2.2.2.2.2.2.2.2.2.2.2.1 o1.2.2.2.2.2.2.2.2.2.2.2.2.2.2.2.2.2.2.2.2.2.2.2.1 o1.2.2.2.2.2.2.2.2.2.2.2.2.2.2.2.2.2.2.2.2.2.2.2.2.1) o1.2.2.2.2.2.2.2.2.2.2.2.2.2.2.2.2.2.2.2.2.2.2.2.2.2.1 o1.2.2.2.2.2.2.2.2.2.2.2.2.2.2.2.2.2.2.2.2.2.2.2.2.2.2.1 o1.2.2.2.2.2.2.2.2.2.2.2.2.2.2.2.2.2.2.2.2.2.2.2.2.2.2.2.1 o1.2.2.2.2.2.2.2.2.2.2.2.2.2.2.2.2.2.2.2.2.2.2.2.2.2.2.2.2.1 o1.2.2.2.2.2.2.2.2.2.2.2.2.2.2.2.2.2.2.2.2.2.2.2.2.2.2.2.2.2.1 o1.2.2.2.2.2.2.2.2.2.2.2.2.2.2.2.2.2.2.2.2.2.2.2.2.2.2.2.2.2.2.1 o1.2.2.2.2.2.2.2.2.2.2.2.2.2.2.2.2.2.2.2.2.2.2.2.2.2.2.2.2.2.2.2.1 o1.2.2.2.2.2.2.2.2.2.2.2.2.2.2.2.2.2.2.2.2.2.2.2.2.2.2.2.2.2.2.2.2.1) o1.2.2.2.2.2.2.2.2.2.2.2.2.2.2.2.2.2.2.2.2.2.2.2.2.2.2.2.2.2.2.2.2.2.1 o1.2.2.2.2.2.2.2.2.2.2.2.2.2.2.2.2.2.2.2.2.2.2.2.2.2.2.2.2.2.2.2.2.2.2.1 o1.2.2.2.2.2.2.2.2.2.2.2.2.2.2.2.2.2.2.2.2.2.2.2.2.2.2.2.2.2.2.2.2.2.2.2.1 o1.2.2.2.2.2.2.2.2.2.2.2.2.2.2.2.2.2.2.2.2.2.2.2.2.2.2.2.2.2.2.2.2.2.2.2.2.1)) fun (y10 : Int) =>
 (bif (y10 != 0) then
 some (((api_Msg.mk 0 0 0 0 0 0 0 [] [] [] [] [] (api_Qid.mk 0 0 0) 0 0 0 [] 0 0 [] (api_Dir.mk 0 0 (api_Qid.mk 0 0 0) 0 0 0 0 [] [] [] []) 0 0 0 []), 0, y10))
 else
 some (((api_Msg.mk o1.1 o1.2.1 o1.2.2.1 o1.2.2.2.1 o1.2.2.2.2.1 o1.2.2.2.2.2.1 o1.2.2.2.2.2.2.1 o1.2.2.2.2.2.2.2.1 o1.2.2.2.2.2.2.2.2.1 o1.2.2.2.2.2.2.2.2.2.1 o1.2.2.2.2.2.2.2.2.2.2.2.2.2.2.2.2.2.2.2.2.2.2.2.2.2.2.2.2.2.2.2.2.2.2.2.2.2.1 o1.2.2.2.2.2.2.2.2.2.2.2.2.2.2.2.2.2.2.2.2.2.2.2.2.2.2.2.2.2.2.2.2.2.2.2.2.2.2.1 (api_Qid.mk o1.2.2.2.2.2.2.2.2.2.2.1 o1.2.2.2.2.2.2.2.2.2.2.2.1 o1.2.2.2.2.2.2.2.2.2.2.2.2.1) o1.2.2.2.2.2.2.2.2.2.2.2.2.2.1 o1.2.2.2.2.2.2.2.2.2.2.2.2.2.2.1 o1.2.2.2.2.2.2.2.2.2.2.2.2.2.2.2.1 o1.2.2.2.2.2.2.2.2.2.2.2.2.2.2.2.2.1 o1.2.2.2.2.2.2.2.2.2.2.2.2.2.2.2.2.2.1 o1.2.2.2.2.2.2.2.2.2.2.2.2.2.2.2.2.2.2.1 o1.2.2.2.2.2.2.2.2.2.2.2.2.2.2.2.2.2.2.2.1 (api_Dir.mk o1.2.2.2.2.2.2.2.2.2.2.2.2.2.2.2.2.2.2.2.2.1 o1.2.2.2.2.2.2.2.2.2.2.2.2.2.2.2.2.2.2.2.2.2.1 (api_Qid.mk o1.2.2.2.2.2.2.2.2.2.2.2.2.2.2.2.2.2.2.2.2.2.2.1 o1.2.2.2.2.2.2.2.2.2.2.2.2.2.2.2.2.2.2.2.2.2.2.2.1 o1.2.2.2.2.2.2.2.2.2.2.2.2.2.2.2.2.2.2.2.2.2.2.2.2.1) o1.2.2.2.2.2.2.2.2.2.2.2.2.2.2.2.2.2.2.2.2.2.2.2.2.2.1 o1.2.2.2.2.2.2.2.2.2.2.2.2.2.2.2.2.2.2.2.2.2.2.2.2.2.2.1 o1.2.2.2.2.2.2.2.2.2.2.2.2.2.2.2.2.2.2.2.2.2.2.2.2.2.2.2.1 o1.2.2.2.2.2.2.2.2.2.2.2.2.2.2.2.2.2.2.2.2.2.2.2.2.2.2.2.2.1 o1.2.2.2.2.2.2.2.2.2.2.2.2.2.2.2.2.2.2.2.2.2.2.2.2.2.2.2.2.2.1 o1.2.2.2.2.2.2.2.2.2.2.2.2.2.2.2.2.2.2.2.2.2.2.2.2.2.2.2.2.2.2.1 o1.2.2.2.2.2.2.2.2.2.2.2.2.2.2.2.2.2.2.2.2.2.2.2.2.2.2.2.2.2.2.2.1 o1.2.2.2.2.2.2.2.2.2.2.2.2.2.2.2.2.2.2.2.2.2.2.2.2.2.2.2.2.2.2.2.2.1) o1.2.2.2.2.2.2.2.2.2.2.2.2.2.2.2.2.2.2.2.2.2.2.2.2.2.2.2.2.2.2.2.2.2.1 o1.2.2.2.2.2.2.2.2.2.2.2.2.2.2.2.2.2.2.2.2.2.2.2.2.2.2.2.2.2.2.2.2.2.2.1 o1.2.2.2.2.2.2.2.2.2.2.2.2.2.2.2.2.2.2.2.2.2.2.2.2.2.2.2.2.2.2.2.2.2.2.2.1 o1.2.2.2.2.2.2.2.2.2.2.2.2.2.2.2.2.2.2.2.2.2.2.2.2.2.2.2.2.2.2.2.2.2.2.2.2.1), (w64 (x1 + y1.1)), 0)))))))))
def law09_WireGets (x0 : Str) (x1 : Int) : Option Bool :=
 (bif (decide ((x0.length : Int) > 20000)) then
 Option.bind (law09_alive) fun (y1 : Bool) =>
 some (y1)
 else
 Option.bind (wire_Get x0 x1) fun (y2 : api_Msg × Int × Int) =>
 Option.bind (ref09_Get x0 x1) fun (y3 : api_Msg × Int × Int) =>
 Option.bind (ref08_Same y2.1 y3.1) fun (y4 : Bool) =>
 Option.bind (bif ((y4 && (y2.2.1 == y3.2.1)) && (y2.2.2 == y3.2.2)) then 
 Option.bind (law09_alive) fun (y5 : Bool) =>
 some y5
 else some false) fun (y6 : Bool) =>
 some (y6))
def ref09_Split_L1 (o1 : Int) (s2 : Str × (List api_Msg)) : Option (Step (Str × (List api_Msg)) (Out (Str × (List api_Msg)) ((List api_Msg) × Str × Int))) :=
 (bif (decide ((s2.1.length : Int) ≥ 4)) then
 Option.bind (ref02_Get s2.1 0 4) fun (y5 : Int × Int × Int) =>
 (bif ((decide (y5.1 > o1)) || (decide (y5.1 < 7))) then
 some (.done (.ret (([], [], 19))))
 else
 (bif (decide (y5.1 > (s2.1.length : Int))) then
 some (.done (.fall (s2.1, s2.2)))
 else
 Option.bind (ref09_Get s2.1 0) fun (y6 : api_Msg × Int × Int) =>
 (bif (y6.2.2 != 0) then
 some (.done (.ret (([], [], y6.2.2))))
 else
 Option.bind (room 424 s2.2 [y6.1]) fun (y7 : List api_Msg) =>
 Option.bind (subI s2.1 y6.2.1 (s2.1.length : Int)) fun (y8 : Str) =>
 some (.next (y8, y7)))))
 else
 some (.done (.fall (s2.1, s2.2))))
def ref09_Split (x0 : Str) (x1 : Int) : Option ((List api_Msg) × Str × Int) :=
 Option.bind (
 (bif ((x1 == 0) || (decide (x1 > 8192))) then
 some 8192
 else
 some x1)
 ) fun (o1 : Int) =>
 Option.bind (loopF (ref09_Split_L1 o1) BIG (x0, [])) fun (wo2 : Out (Str × (List api_Msg)) ((List api_Msg) × Str × Int)) => match wo2 with
 | .ret r2 => some r2
 | .fall o2 =>
 some ((o2.2, o2.1, 0))
def law09_same_L1 (x0 : List api_Msg) (x1 : List api_Msg) (s2 : Int) : Option (Step Int (Out Unit Bool)) :=
 (bif (decide (s2 < (x0.length : Int))) then
 Option.bind (getI x0 s2) fun (y4 : api_Msg) =>
 Option.bind (getI x1 s2) fun (y5 : api_Msg) =>
 Option.bind (ref08_Same y4 y5) fun (y6 : Bool) =>
 (bif (!y6) then
 some (.done (.ret (false)))
 else
 some (.next (w64 (s2 + 1))))
 else
 some (.done (.fall ())))
def law09_same (x0 : List api_Msg) (x1 : List api_Msg) : Option Bool :=
 (bif ((x0.length : Int) != (x1.length : Int)) then
 some (false)
 else
 Option.bind (loopF (law09_same_L1 x0 x1) BIG 0) fun (wo1 : Out Unit Bool) => match wo1 with
 | .ret r1 => some r1
 | .fall _ =>
 some (true))
def law09_WireSplits (x0 : Str) (x1 : Int) : Option Bool :=
 (bif (decide ((x0.length : Int) > 20000)) then
 Option.bind (law09_alive) fun (y1 : Bool) =>
 some (y1)
 else
 Option.bind (wire_Split x0 x1) fun (y2 : (List api_Msg) × Str × Int) =>
 Option.bind (ref09_Split x0 x1) fun (y3 : (List api_Msg) × Str × Int) =>
 Option.bind (law09_same y2.1 y3.1) fun (y4 : Bool) =>
 Option.bind (bif ((y4 && (y2.2.1 == y3.2.1)) && (y2.2.2 == y3.2.2)) then 
 Option.bind (law09_alive) fun (y5 : Bool) =>
 some y5
 else some false) fun (y6 : Bool) =>
 some (y6))
end Go.Proofs.YtboplmpnjepdnaaGreat
