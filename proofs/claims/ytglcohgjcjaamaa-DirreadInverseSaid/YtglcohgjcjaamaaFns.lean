/-
  Each Go function as a function on plain data: printed by a program of ours (gosh.py) off the translation.
-/
import Derived.Test.YtglcohgjcjaamaaOpen
namespace Go.Proofs.Ytglcohgjcjaamaa
open Go.Rt Go.RowKit

structure api_Node where
  Id_ : Int
  Parent_ : Int
  Vers_ : Int
  Name_ : Str
  Mode_ : Int
  Uid_ : Str
  Gid_ : Str
  Muid_ : Str
  Atime_ : Int
  Mtime_ : Int
  Data_ : Str
deriving DecidableEq, Inhabited
def api_Node.enc (d : api_Node) : List Value := [.int .i64 d.Id_, .int .i64 d.Parent_, .int .i64 d.Vers_, S d.Name_, .int .i64 d.Mode_, S d.Uid_, S d.Gid_, S d.Muid_, .int .i64 d.Atime_, .int .i64 d.Mtime_, S d.Data_]
theorem api_Node_ext (x y : api_Node) : (x = y) = (x.Id_ = y.Id_ ∧ x.Parent_ = y.Parent_ ∧ x.Vers_ = y.Vers_ ∧ x.Name_ = y.Name_ ∧ x.Mode_ = y.Mode_ ∧ x.Uid_ = y.Uid_ ∧ x.Gid_ = y.Gid_ ∧ x.Muid_ = y.Muid_ ∧ x.Atime_ = y.Atime_ ∧ x.Mtime_ = y.Mtime_ ∧ x.Data_ = y.Data_) := by cases x; cases y; simp
def api_Node.ok (d : api_Node) : Prop := InK .i64 d.Id_ ∧ InK .i64 d.Parent_ ∧ InK .i64 d.Vers_ ∧ d.Name_.length ≤ 9223372036854775807 ∧ InK .i64 d.Mode_ ∧ d.Uid_.length ≤ 9223372036854775807 ∧ d.Gid_.length ≤ 9223372036854775807 ∧ d.Muid_.length ≤ 9223372036854775807 ∧ InK .i64 d.Atime_ ∧ InK .i64 d.Mtime_ ∧ d.Data_.length ≤ 9223372036854775807
theorem api_Node.decode (r : List Value) (h : CellsOK [.int .i64, .int .i64, .int .i64, .str, .int .i64, .str, .str, .str, .int .i64, .int .i64, .str] r) : ∃ d : api_Node, r = api_Node.enc d ∧ d.ok := by
  obtain ⟨a0, _, rfl, h0, a1, _, rfl, h1, a2, _, rfl, h2, a3, _, rfl, h3, a4, _, rfl, h4, a5, _, rfl, h5, a6, _, rfl, h6, a7, _, rfl, h7, a8, _, rfl, h8, a9, _, rfl, h9, a10, _, rfl, h10, rfl⟩ := h
  exact ⟨⟨a0, a1, a2, a3, a4, a5, a6, a7, a8, a9, a10⟩, rfl, ⟨h0, h1, h2, h3, h4, h5, h6, h7, h8, h9, h10⟩⟩
structure api_Qid where
  Type_ : Int
  Vers_ : Int
  Path_ : Int
deriving DecidableEq, Inhabited
def api_Qid.enc (d : api_Qid) : List Value := [.int .i64 d.Type_, .int .i64 d.Vers_, .int .i64 d.Path_]
theorem api_Qid_ext (x y : api_Qid) : (x = y) = (x.Type_ = y.Type_ ∧ x.Vers_ = y.Vers_ ∧ x.Path_ = y.Path_) := by cases x; cases y; simp
def api_Qid.ok (d : api_Qid) : Prop := InK .i64 d.Type_ ∧ InK .i64 d.Vers_ ∧ InK .i64 d.Path_
theorem api_Qid.decode (r : List Value) (h : CellsOK [.int .i64, .int .i64, .int .i64] r) : ∃ d : api_Qid, r = api_Qid.enc d ∧ d.ok := by
  obtain ⟨a0, _, rfl, h0, a1, _, rfl, h1, a2, _, rfl, h2, rfl⟩ := h
  exact ⟨⟨a0, a1, a2⟩, rfl, ⟨h0, h1, h2⟩⟩
structure api_Dir where
  Type_ : Int
  Dev_ : Int
  Qid_ : api_Qid
  Mode_ : Int
  Atime_ : Int
  Mtime_ : Int
  Length_ : Int
  Name_ : Str
  Uid_ : Str
  Gid_ : Str
  Muid_ : Str
deriving DecidableEq, Inhabited
def api_Dir.enc (d : api_Dir) : List Value := [.int .i64 d.Type_, .int .i64 d.Dev_, .int .i64 d.Qid_.Type_, .int .i64 d.Qid_.Vers_, .int .i64 d.Qid_.Path_, .int .i64 d.Mode_, .int .i64 d.Atime_, .int .i64 d.Mtime_, .int .i64 d.Length_, S d.Name_, S d.Uid_, S d.Gid_, S d.Muid_]
theorem api_Dir_ext (x y : api_Dir) : (x = y) = (x.Type_ = y.Type_ ∧ x.Dev_ = y.Dev_ ∧ x.Qid_ = y.Qid_ ∧ x.Mode_ = y.Mode_ ∧ x.Atime_ = y.Atime_ ∧ x.Mtime_ = y.Mtime_ ∧ x.Length_ = y.Length_ ∧ x.Name_ = y.Name_ ∧ x.Uid_ = y.Uid_ ∧ x.Gid_ = y.Gid_ ∧ x.Muid_ = y.Muid_) := by cases x; cases y; simp
def api_Dir.ok (d : api_Dir) : Prop := InK .i64 d.Type_ ∧ InK .i64 d.Dev_ ∧ api_Qid.ok d.Qid_ ∧ InK .i64 d.Mode_ ∧ InK .i64 d.Atime_ ∧ InK .i64 d.Mtime_ ∧ InK .i64 d.Length_ ∧ d.Name_.length ≤ 9223372036854775807 ∧ d.Uid_.length ≤ 9223372036854775807 ∧ d.Gid_.length ≤ 9223372036854775807 ∧ d.Muid_.length ≤ 9223372036854775807
theorem api_Dir.decode (r : List Value) (h : CellsOK [.int .i64, .int .i64, .int .i64, .int .i64, .int .i64, .int .i64, .int .i64, .int .i64, .int .i64, .str, .str, .str, .str] r) : ∃ d : api_Dir, r = api_Dir.enc d ∧ d.ok := by
  obtain ⟨a0, _, rfl, h0, a1, _, rfl, h1, a2, _, rfl, h2, a3, _, rfl, h3, a4, _, rfl, h4, a5, _, rfl, h5, a6, _, rfl, h6, a7, _, rfl, h7, a8, _, rfl, h8, a9, _, rfl, h9, a10, _, rfl, h10, a11, _, rfl, h11, a12, _, rfl, h12, rfl⟩ := h
  exact ⟨⟨a0, a1, ⟨a2, a3, a4⟩, a5, a6, a7, a8, a9, a10, a11, a12⟩, rfl, ⟨h0, h1, ⟨h2, h3, h4⟩, h5, h6, h7, h8, h9, h10, h11, h12⟩⟩
structure stat_number where
  n_ : Int
  width_ : Int
  most_ : Int
deriving DecidableEq, Inhabited
def stat_number.enc (d : stat_number) : List Value := [.int .i64 d.n_, .int .i64 d.width_, .int .i64 d.most_]
theorem stat_number_ext (x y : stat_number) : (x = y) = (x.n_ = y.n_ ∧ x.width_ = y.width_ ∧ x.most_ = y.most_) := by cases x; cases y; simp
def stat_number.ok (d : stat_number) : Prop := InK .i64 d.n_ ∧ InK .i64 d.width_ ∧ InK .i64 d.most_
theorem stat_number.decode (r : List Value) (h : CellsOK [.int .i64, .int .i64, .int .i64] r) : ∃ d : stat_number, r = stat_number.enc d ∧ d.ok := by
  obtain ⟨a0, _, rfl, h0, a1, _, rfl, h1, a2, _, rfl, h2, rfl⟩ := h
  exact ⟨⟨a0, a1, a2⟩, rfl, ⟨h0, h1, h2⟩⟩
structure stat_reader where
  s_ : Str
  at_ : Int
  ok_ : Bool
deriving DecidableEq, Inhabited
def stat_reader.enc (d : stat_reader) : List Value := [S d.s_, .int .i64 d.at_, .bool d.ok_]
theorem stat_reader_ext (x y : stat_reader) : (x = y) = (x.s_ = y.s_ ∧ x.at_ = y.at_ ∧ x.ok_ = y.ok_) := by cases x; cases y; simp
def stat_reader.ok (d : stat_reader) : Prop := d.s_.length ≤ 9223372036854775807 ∧ InK .i64 d.at_
theorem stat_reader.decode (r : List Value) (h : CellsOK [.str, .int .i64, .bool] r) : ∃ d : stat_reader, r = stat_reader.enc d ∧ d.ok := by
  obtain ⟨a0, _, rfl, h0, a1, _, rfl, h1, a2, _, rfl, rfl⟩ := h
  exact ⟨⟨a0, a1, a2⟩, rfl, ⟨h0, h1⟩⟩
structure Arr4_string where
  a0_ : Str
  a1_ : Str
  a2_ : Str
  a3_ : Str
deriving DecidableEq, Inhabited
def Arr4_string.enc (d : Arr4_string) : List Value := [S d.a0_, S d.a1_, S d.a2_, S d.a3_]
theorem Arr4_string_ext (x y : Arr4_string) : (x = y) = (x.a0_ = y.a0_ ∧ x.a1_ = y.a1_ ∧ x.a2_ = y.a2_ ∧ x.a3_ = y.a3_) := by cases x; cases y; simp
def Arr4_string.ok (d : Arr4_string) : Prop := d.a0_.length ≤ 9223372036854775807 ∧ d.a1_.length ≤ 9223372036854775807 ∧ d.a2_.length ≤ 9223372036854775807 ∧ d.a3_.length ≤ 9223372036854775807
theorem Arr4_string.decode (r : List Value) (h : CellsOK [.str, .str, .str, .str] r) : ∃ d : Arr4_string, r = Arr4_string.enc d ∧ d.ok := by
  obtain ⟨a0, _, rfl, h0, a1, _, rfl, h1, a2, _, rfl, h2, a3, _, rfl, h3, rfl⟩ := h
  exact ⟨⟨a0, a1, a2, a3⟩, rfl, ⟨h0, h1, h2, h3⟩⟩
def Arr4_string.put (d : Arr4_string) (i : Int) (v : Str) : Arr4_string :=
  bif i == 0 then { d with a0_ := v }
  else bif i == 1 then { d with a1_ := v }
  else bif i == 2 then { d with a2_ := v }
  else bif i == 3 then { d with a3_ := v }
  else d
theorem Arr4_string_put (d : Arr4_string) {i : Int} {u : Unit} (h : boundI 4 i = some u) (v : Str) : Nat.ble (0 + i.toNat * 1 + 1) (Arr4_string.enc d).length = true ∧ splice (Arr4_string.enc d) (0 + i.toNat * 1) (eS v) = Arr4_string.enc (d.put i v) := by
  obtain ⟨h0, h1⟩ := boundI_some h
  have : i = 0 ∨ i = 1 ∨ i = 2 ∨ i = 3 := by omega
  rcases this with this | this | this | this <;> subst this <;> exact ⟨rfl, rfl⟩
/-- filespace/dirread.has -/
def dirread_has (x0 : Int) (x1 : Int) : Option Bool :=
  some ((decide (x0 ≥ 0)) && ((andI .i64 x0 x1) != 0))
/-- filespace/dirread.kind -/
def dirread_kind (x0 : Int) : Option Int :=
  Option.bind (
    Option.bind (dirread_has x0 2147483648) fun (y1 : Bool) =>
    (bif y1 then
      some (w64 (0 + 128))
    else
      some 0)
    ) fun (o1 : Int) =>
  Option.bind (
    Option.bind (dirread_has x0 1073741824) fun (y2 : Bool) =>
    (bif y2 then
      some (w64 (o1 + 64))
    else
      some o1)
    ) fun (o2 : Int) =>
  Option.bind (
    Option.bind (dirread_has x0 536870912) fun (y3 : Bool) =>
    (bif y3 then
      some (w64 (o2 + 32))
    else
      some o2)
    ) fun (o3 : Int) =>
  Option.bind (
    Option.bind (dirread_has x0 134217728) fun (y4 : Bool) =>
    (bif y4 then
      some (w64 (o3 + 8))
    else
      some o3)
    ) fun (o4 : Int) =>
  some o4
/-- filespace/dirread.Stat -/
def dirread_Stat (x0 : api_Node) (x1 : Int) : Option api_Dir :=
  Option.bind (dirread_kind x0.Mode_) fun (y1 : Int) =>
  Option.bind (
    Option.bind (dirread_has x0.Mode_ 2147483648) fun (y2 : Bool) =>
    (bif (!y2) then
      some (api_Dir.mk 1 x1 (api_Qid.mk y1 x0.Vers_ x0.Id_) x0.Mode_ x0.Atime_ x0.Mtime_ (x0.Data_.length : Int) x0.Name_ x0.Uid_ x0.Gid_ x0.Muid_)
    else
      some (api_Dir.mk 1 x1 (api_Qid.mk y1 x0.Vers_ x0.Id_) x0.Mode_ x0.Atime_ x0.Mtime_ 0 x0.Name_ x0.Uid_ x0.Gid_ x0.Muid_))
    ) fun (o1 : api_Dir) =>
  some o1
/-- filespace/filespaceref11.has -/
def ref11_has (x0 : Int) (x1 : Int) : Option Bool :=
  Option.bind (bif (decide (x0 ≥ 0)) then 
    Option.bind (quoI .i64 x0 x1) fun (y2 : Int) =>
    some ((y2.tmod 2) == 1)
     else some false) fun (y1 : Bool) =>
  some y1
/-- filespace/filespaceref11.Stat -/
def ref11_Stat (x0 : api_Node) (x1 : Int) : Option api_Dir :=
  Option.bind (
    Option.bind (ref11_has x0.Mode_ 2147483648) fun (y1 : Bool) =>
    (bif y1 then
      some (w64 (0 + 128))
    else
      some 0)
    ) fun (o1 : Int) =>
  Option.bind (
    Option.bind (ref11_has x0.Mode_ 1073741824) fun (y2 : Bool) =>
    (bif y2 then
      some (w64 (o1 + 64))
    else
      some o1)
    ) fun (o2 : Int) =>
  Option.bind (
    Option.bind (ref11_has x0.Mode_ 536870912) fun (y3 : Bool) =>
    (bif y3 then
      some (w64 (o2 + 32))
    else
      some o2)
    ) fun (o3 : Int) =>
  Option.bind (
    Option.bind (ref11_has x0.Mode_ 134217728) fun (y4 : Bool) =>
    (bif y4 then
      some (w64 (o3 + 8))
    else
      some o3)
    ) fun (o4 : Int) =>
  Option.bind (
    Option.bind (ref11_has x0.Mode_ 2147483648) fun (y5 : Bool) =>
    (bif y5 then
      some 0
    else
      some (x0.Data_.length : Int))
    ) fun (o5 : Int) =>
  some (api_Dir.mk 1 x1 (api_Qid.mk o4 x0.Vers_ x0.Id_) x0.Mode_ x0.Atime_ x0.Mtime_ o5 x0.Name_ x0.Uid_ x0.Gid_ x0.Muid_)
/-- filespace/filespacelaw11.node -/
def law11_node  : Option api_Node :=
  some (api_Node.mk 3 1 2 [102] 420 [97, 110, 110] [97, 100, 109] [98, 111, 98] 5 6 [97, 98, 99])
/-- filespace/stat.numbers -/
def stat_numbers (x0 : api_Dir) : Option (List stat_number) :=
  some [(stat_number.mk x0.Type_ 2 65534), (stat_number.mk x0.Dev_ 4 4294967294), (stat_number.mk x0.Qid_.Type_ 1 232), (stat_number.mk x0.Qid_.Vers_ 4 2147483647), (stat_number.mk x0.Qid_.Path_ 8 1099511627776), (stat_number.mk x0.Mode_ 4 3892314623), (stat_number.mk x0.Atime_ 8 1099511627776), (stat_number.mk x0.Mtime_ 8 1099511627776), (stat_number.mk x0.Length_ 8 9007199254740991)]
/-- filespace/stat.within -/
def stat_within (x0 : Int) (x1 : Int) : Option Bool :=
  some ((x0 == (-1)) || ((decide (x0 ≥ 0)) && ((andNotI .i64 x0 x1) == 0)))
/-- filespace/path.Valid -/
def path_Valid_L1 (x0 : Str) (s1 : Int) : Option (Step Int (Out Unit Bool)) :=
  (bif (decide (s1 < (x0.length : Int))) then
    Option.bind (byteI x0 s1) fun (y1 : Int) =>
    Option.bind (bif (decide (y1 < 33)) then some true else 
      Option.bind (byteI x0 s1) fun (y3 : Int) =>
      some (decide (y3 > 126))
      ) fun (y2 : Bool) =>
    Option.bind (bif y2 then some true else 
      Option.bind (byteI x0 s1) fun (y5 : Int) =>
      some (y5 == 47)
      ) fun (y4 : Bool) =>
    (bif y4 then
      some (.done (.ret false))
    else
      some (.next (w64 (s1 + 1))))
  else
    some (.done (.fall ())))
def path_Valid (x0 : Str) : Option Bool :=
  (bif ((((x0 == []) || (x0 == [46])) || (x0 == [46, 46])) || (decide ((x0.length : Int) > 64))) then
    some false
  else
    Option.bind (loopF (path_Valid_L1 x0) BIG 0) fun (o1 : Out Unit Bool) => match o1 with
    | .ret r => some r
    | .fall _ =>
      some true)
/-- filespace/stat.Check -/
def stat_Check_L1 (y1 : (List stat_number)) (s1 : Int) : Option (Step Int (Out Unit Int)) :=
  (bif (decide (s1 < (y1.length : Int))) then
    Option.bind (getI y1 s1) fun (y2 : stat_number) =>
    (bif ((decide (y2.n_ < (-1))) || (decide (y2.n_ > y2.most_))) then
      some (.done (.ret 5))
    else
      some (.next (w64 (s1 + 1))))
  else
    some (.done (.fall ())))
def stat_Check (x0 : api_Dir) : Option Int :=
  Option.bind (stat_numbers x0) fun (y1 : (List stat_number)) =>
  Option.bind (loopF (stat_Check_L1 y1) BIG 0) fun (o1 : Out Unit Int) => match o1 with
  | .ret r => some r
  | .fall _ =>
    Option.bind (stat_within x0.Qid_.Type_ 232) fun (y3 : Bool) =>
    Option.bind (bif (!y3) then some true else 
      Option.bind (stat_within x0.Mode_ 3892314623) fun (y5 : Bool) =>
      some (!y5)
      ) fun (y4 : Bool) =>
    (bif y4 then
      some 5
    else
      Option.bind (bif ((!(x0.Name_ == [])) && (!(x0.Name_ == [47]))) then 
        Option.bind (path_Valid x0.Name_) fun (y7 : Bool) =>
        some (!y7)
         else some false) fun (y6 : Bool) =>
      (bif (y6 || (decide ((maxI (maxI (x0.Uid_.length : Int) (x0.Gid_.length : Int)) (x0.Muid_.length : Int)) > 64))) then
        some 6
      else
        some 0))
/-- filespace/octet.Put -/
def octet_Put_L1 (y4 : List Int) (x0 : Int) (s1 : (List Int) × Int) : Option (Step ((List Int) × Int) (List Int)) :=
  (bif (decide (s1.2 < (y4.length : Int))) then
    Option.bind (shrI .i64 x0 (w64 (8 * s1.2))) fun (y5 : Int) =>
    Option.bind (getI s1.1 s1.2) fun (_ : Int) =>
    some (.next ((s1.1.set s1.2.toNat (IntKind.u8.wrap y5)), (w64 (s1.2 + 1))))
  else
    some (.done s1.1))
def octet_Put (x0 : Int) (x1 : Int) : Option (Str × Int) :=
  (bif ((decide (x1 < 1)) || (decide (x1 > 8))) then
    some ([], 1)
  else
    Option.bind (bif (decide (x0 < 0)) then some true else 
      Option.bind (bif (decide (x1 < 8)) then 
        Option.bind (shrI .i64 x0 (w64 (8 * x1))) fun (y3 : Int) =>
        some (decide (y3 > 0))
         else some false) fun (y2 : Bool) =>
      some y2
      ) fun (y1 : Bool) =>
    (bif y1 then
      some ([], 5)
    else
      Option.bind (makeI 1 (0 : Int) x1) fun (y4 : List Int) =>
      Option.bind (loopF (octet_Put_L1 y4 x0) BIG (y4, 0)) fun (o1 : (List Int)) =>
      some ((bytesS o1), 0)))
/-- filespace/stat.put -/
def stat_put (x0 : stat_number) : Option Str :=
  (bif (x0.n_ == (-1)) then
    Option.bind (strings_Repeat [255] x0.width_) fun (y1 : Str) =>
    some y1
  else
    Option.bind (octet_Put x0.n_ x0.width_) fun (y2 : Str × Int) =>
    some y2.1)
/-- filespace/octet.PutText -/
def octet_PutText (x0 : Str) : Option (Str × Int) :=
  (bif (decide ((x0.length : Int) > 65535)) then
    some ([], 4)
  else
    Option.bind (octet_Put (x0.length : Int) 2) fun (y1 : Str × Int) =>
    Option.bind (cat y1.1 x0) fun (y2 : Str) =>
    some (y2, y1.2))
/-- filespace/stat.Put -/
def stat_Put_L1 (y2 : (List stat_number)) (s1 : Str × Int) : Option (Step (Str × Int) Str) :=
  (bif (decide (s1.2 < (y2.length : Int))) then
    Option.bind (getI y2 s1.2) fun (y3 : stat_number) =>
    Option.bind (stat_put y3) fun (y4 : Str) =>
    Option.bind (cat s1.1 y4) fun (y5 : Str) =>
    some (.next (y5, (w64 (s1.2 + 1))))
  else
    some (.done s1.1))
def stat_Put_L2 (x0 : api_Dir) (s2 : Str × Int) : Option (Step (Str × Int) (Out Str (Str × Int))) :=
  (bif (decide (s2.2 < ([x0.Name_, x0.Uid_, x0.Gid_, x0.Muid_].length : Int))) then
    Option.bind (getI [x0.Name_, x0.Uid_, x0.Gid_, x0.Muid_] s2.2) fun (y6 : Str) =>
    Option.bind (octet_PutText y6) fun (y7 : Str × Int) =>
    (bif (y7.2 != 0) then
      some (.done (.ret ([], y7.2)))
    else
      Option.bind (cat s2.1 y7.1) fun (y8 : Str) =>
      some (.next (y8, (w64 (s2.2 + 1)))))
  else
    some (.done (.fall s2.1)))
def stat_Put (x0 : api_Dir) : Option (Str × Int) :=
  Option.bind (stat_Check x0) fun (y1 : Int) =>
  (bif (y1 != 0) then
    some ([], y1)
  else
    Option.bind (stat_numbers x0) fun (y2 : (List stat_number)) =>
    Option.bind (loopF (stat_Put_L1 y2) BIG ([], 0)) fun (o1 : Str) =>
    Option.bind (loopF (stat_Put_L2 x0) BIG (o1, 0)) fun (o2 : Out Str (Str × Int)) => match o2 with
    | .ret r => some r
    | .fall s2 =>
      Option.bind (octet_Put (s2.length : Int) 2) fun (y9 : Str × Int) =>
      Option.bind (cat y9.1 s2) fun (y10 : Str) =>
      some (y10, y9.2))
/-- filespace/dirread.contents -/
def dirread_contents_L1 (x0 : List api_Dir) (s1 : Str × (List Int) × Int) : Option (Step (Str × (List Int) × Int) (Out (Str × (List Int)) (Str × (List Int) × Int))) :=
  (bif (decide (s1.2.2 < (x0.length : Int))) then
    Option.bind (getI x0 s1.2.2) fun (y1 : api_Dir) =>
    Option.bind (stat_Put y1) fun (y2 : Str × Int) =>
    (bif (y2.2 != 0) then
      some (.done (.ret ([], [], y2.2)))
    else
      Option.bind (cat s1.1 y2.1) fun (y3 : Str) =>
      Option.bind (room 8 s1.2.1 [(y3.length : Int)]) fun (y4 : List Int) =>
      some (.next (y3, y4, (w64 (s1.2.2 + 1)))))
  else
    some (.done (.fall (s1.1, s1.2.1))))
def dirread_contents (x0 : List api_Dir) : Option (Str × (List Int) × Int) :=
  Option.bind (loopF (dirread_contents_L1 x0) BIG ([], [0], 0)) fun (o1 : Out (Str × (List Int)) (Str × (List Int) × Int)) => match o1 with
  | .ret r => some r
  | .fall s1 =>
    some (s1.1, s1.2, 0)
/-- filespace/dirread.Bounds -/
def dirread_Bounds (x0 : List api_Dir) : Option ((List Int) × Int) :=
  Option.bind (dirread_contents x0) fun (y1 : Str × (List Int) × Int) =>
  some (y1.2.1, y1.2.2)
/-- slices.Index[[]int,int] -/
def slices_Index_intint_L1 (x0 : List Int) (x1 : Int) (s1 : Int) : Option (Step Int (Out Unit Int)) :=
  (bif (decide (s1 < (x0.length : Int))) then
    Option.bind (getI x0 s1) fun (y1 : Int) =>
    (bif (x1 == y1) then
      some (.done (.ret s1))
    else
      some (.next (w64 (s1 + 1))))
  else
    some (.done (.fall ())))
def slices_Index_intint (x0 : List Int) (x1 : Int) : Option Int :=
  Option.bind (loopF (slices_Index_intint_L1 x0 x1) BIG 0) fun (o1 : Out Unit Int) => match o1 with
  | .ret r => some r
  | .fall _ =>
    some (-1)
/-- filespace/dirread.page -/
def dirread_page_L1 (y2 : List Int) (x2 : Int) (x3 : Int) (s1 : Int × Int) : Option (Step (Int × Int) Int) :=
  (bif (decide (s1.2 < (y2.length : Int))) then
    Option.bind (
      Option.bind (getI y2 s1.2) fun (y3 : Int) =>
      (bif (decide ((w64 (y3 - x2)) ≤ x3)) then
        some y3
      else
        some s1.1)
      ) fun (o2 : Int) =>
    some (.next (o2, (w64 (s1.2 + 1))))
  else
    some (.done s1.1))
def dirread_page (x0 : Str) (x1 : List Int) (x2 : Int) (x3 : Int) : Option (Str × Int) :=
  Option.bind (slices_Index_intint x1 x2) fun (y1 : Int) =>
  (bif (decide (y1 < 0)) then
    some ([], 20)
  else
    Option.bind (subI x1 (w64 (y1 + 1)) (x1.length : Int)) fun (y2 : List Int) =>
    Option.bind (loopF (dirread_page_L1 y2 x2 x3) BIG (x2, 0)) fun (o1 : Int) =>
    (bif ((o1 == x2) && (decide (x2 < (x0.length : Int)))) then
      some ([], 3)
    else
      Option.bind (subI x0 x2 o1) fun (y4 : Str) =>
      some (y4, 0)))
/-- filespace/dirread.Page -/
def dirread_Page (x0 : List api_Dir) (x1 : Int) (x2 : Int) : Option (Str × Int) :=
  (bif ((decide (x1 < 0)) || (decide (x2 < 0))) then
    some ([], 1)
  else
    Option.bind (dirread_contents x0) fun (y1 : Str × (List Int) × Int) =>
    (bif (y1.2.2 != 0) then
      some ([], y1.2.2)
    else
      Option.bind (dirread_page y1.1 y1.2.1 x1 x2) fun (y2 : Str × Int) =>
      some (y2.1, y2.2)))
/-- filespace/dirread.All -/
def dirread_All_L1 (y1 : Str × (List Int) × Int) (x1 : Int) (s1 : Int) : Option (Step Int (Out Unit (Str × Int))) :=
  (bif (decide (s1 < (y1.1.length : Int))) then
    Option.bind (dirread_page y1.1 y1.2.1 s1 x1) fun (y2 : Str × Int) =>
    (bif (y2.2 != 0) then
      some (.done (.ret ([], y2.2)))
    else
      some (.next (w64 (s1 + (y2.1.length : Int)))))
  else
    some (.done (.fall ())))
def dirread_All (x0 : List api_Dir) (x1 : Int) : Option (Str × Int) :=
  (bif (decide (x1 < 0)) then
    some ([], 1)
  else
    Option.bind (dirread_contents x0) fun (y1 : Str × (List Int) × Int) =>
    (bif (y1.2.2 != 0) then
      some ([], y1.2.2)
    else
      Option.bind (loopF (dirread_All_L1 y1 x1) BIG 0) fun (o1 : Out Unit (Str × Int)) => match o1 with
      | .ret r => some r
      | .fall _ =>
        some (y1.1, 0)))
/-- filespace/filespacelaw11.awake -/
def law11_awake  : Option Bool :=
  Option.bind (law11_node) fun (y1 : api_Node) =>
  Option.bind (dirread_Stat y1 7) fun (y2 : api_Dir) =>
  (bif (!(decide (y2 = (api_Dir.mk 1 7 (api_Qid.mk 0 2 3) 420 5 6 3 [102] [97, 110, 110] [97, 100, 109] [98, 111, 98])))) then
    some false
  else
    Option.bind (dirread_Bounds [y2, y2]) fun (y3 : (List Int) × Int) =>
    Option.bind (bif ((y3.2 != 0) || ((y3.1.length : Int) != 3)) then some true else 
      Option.bind (getI y3.1 0) fun (y5 : Int) =>
      some (y5 != 0)
      ) fun (y4 : Bool) =>
    Option.bind (bif y4 then some true else 
      Option.bind (getI y3.1 1) fun (y7 : Int) =>
      some (decide (y7 ≤ 0))
      ) fun (y6 : Bool) =>
    Option.bind (bif y6 then some true else 
      Option.bind (getI y3.1 2) fun (y9 : Int) =>
      Option.bind (getI y3.1 1) fun (y10 : Int) =>
      Option.bind (getI y3.1 1) fun (y11 : Int) =>
      some ((w64 (y9 - y10)) != y11)
      ) fun (y8 : Bool) =>
    (bif y8 then
      some false
    else
      Option.bind (getI y3.1 1) fun (y12 : Int) =>
      Option.bind (getI y3.1 1) fun (y13 : Int) =>
      Option.bind (dirread_Page [y2, y2] y12 y13) fun (y14 : Str × Int) =>
      Option.bind (dirread_Page [y2, y2] 1 5000) fun (y15 : Str × Int) =>
      Option.bind (getI y3.1 1) fun (y16 : Int) =>
      Option.bind (dirread_Page [y2, y2] 0 (w64 (y16 - 1))) fun (y17 : Str × Int) =>
      Option.bind (getI y3.1 1) fun (y18 : Int) =>
      Option.bind (dirread_All [y2, y2] y18) fun (y19 : Str × Int) =>
      Option.bind (getI y3.1 1) fun (y20 : Int) =>
      Option.bind (bif (((((y14.1.length : Int) == y20) && (y14.2 == 0)) && (y15.2 == 20)) && (y17.2 == 3)) then 
        Option.bind (cat y14.1 y14.1) fun (y22 : Str) =>
        some (y19.1 == y22)
         else some false) fun (y21 : Bool) =>
      some (y21 && (y19.2 == 0))))
/-- filespace/filespacelaw11.DirreadStats -/
def law11_DirreadStats (x0 : api_Node) (x1 : Int) : Option Bool :=
  Option.bind (dirread_Stat x0 x1) fun (y1 : api_Dir) =>
  Option.bind (ref11_Stat x0 x1) fun (y2 : api_Dir) =>
  Option.bind (bif (decide (y1 = y2)) then 
    Option.bind (law11_awake) fun (y4 : Bool) =>
    some y4
     else some false) fun (y3 : Bool) =>
  some y3
/-- filespace/filespacelaw11.small -/
def law11_small_L1 (x0 : List api_Dir) (s1 : Int) : Option (Step Int (Out Unit Bool)) :=
  (bif (decide (s1 < (x0.length : Int))) then
    Option.bind (getI x0 s1) fun (y1 : api_Dir) =>
    Option.bind (bif (decide ((y1.Name_.length : Int) > 2000)) then some true else 
      Option.bind (getI x0 s1) fun (y3 : api_Dir) =>
      some (decide ((y3.Uid_.length : Int) > 2000))
      ) fun (y2 : Bool) =>
    Option.bind (bif y2 then some true else 
      Option.bind (getI x0 s1) fun (y5 : api_Dir) =>
      some (decide ((y5.Gid_.length : Int) > 2000))
      ) fun (y4 : Bool) =>
    Option.bind (bif y4 then some true else 
      Option.bind (getI x0 s1) fun (y7 : api_Dir) =>
      some (decide ((y7.Muid_.length : Int) > 2000))
      ) fun (y6 : Bool) =>
    (bif y6 then
      some (.done (.ret false))
    else
      some (.next (w64 (s1 + 1))))
  else
    some (.done (.fall ())))
def law11_small (x0 : List api_Dir) : Option Bool :=
  (bif (decide ((x0.length : Int) > 60)) then
    some false
  else
    Option.bind (loopF (law11_small_L1 x0) BIG 0) fun (o1 : Out Unit Bool) => match o1 with
    | .ret r => some r
    | .fall _ =>
      some true)
/-- filespace/filespaceref07.sum -/
def ref07_sum (x0 : Int) (x1 : Int) : Option Bool :=
  some ((x0 == (-1)) || ((decide (x0 ≥ 0)) && ((andI .i64 x0 x1) == x0)))
/-- filespace/filespaceref07.in -/
def ref07_in (x0 : Int) (x1 : Int) : Option Bool :=
  some ((x0 == (-1)) || ((decide (x0 ≥ 0)) && (decide (x0 ≤ x1))))
/-- filespace/filespaceref07.Numbers -/
def ref07_Numbers (x0 : api_Dir) : Option Bool :=
  Option.bind (ref07_sum x0.Qid_.Type_ 232) fun (y1 : Bool) =>
  Option.bind (bif y1 then 
    Option.bind (ref07_in x0.Qid_.Vers_ 2147483647) fun (y3 : Bool) =>
    some y3
     else some false) fun (y2 : Bool) =>
  Option.bind (bif y2 then 
    Option.bind (ref07_in x0.Qid_.Path_ 1099511627776) fun (y5 : Bool) =>
    some y5
     else some false) fun (y4 : Bool) =>
  Option.bind (ref07_sum x0.Mode_ 3892314623) fun (y6 : Bool) =>
  Option.bind (ref07_in x0.Type_ 65534) fun (y7 : Bool) =>
  Option.bind (bif y7 then 
    Option.bind (ref07_in x0.Dev_ 4294967294) fun (y9 : Bool) =>
    some y9
     else some false) fun (y8 : Bool) =>
  Option.bind (bif ((y8 && y4) && y6) then 
    Option.bind (ref07_in x0.Atime_ 1099511627776) fun (y11 : Bool) =>
    some y11
     else some false) fun (y10 : Bool) =>
  Option.bind (bif y10 then 
    Option.bind (ref07_in x0.Mtime_ 1099511627776) fun (y13 : Bool) =>
    some y13
     else some false) fun (y12 : Bool) =>
  Option.bind (bif y12 then 
    Option.bind (ref07_in x0.Length_ 9007199254740991) fun (y15 : Bool) =>
    some y15
     else some false) fun (y14 : Bool) =>
  some y14
/-- filespace/filespaceref03.Valid -/
def ref03_Valid_L1 (x0 : Str) (s1 : Int) : Option (Step Int (Out Unit Bool)) :=
  (bif (decide (s1 < (x0.length : Int))) then
    Option.bind (byteI x0 s1) fun (y1 : Int) =>
    Option.bind (bif (decide (y1 < 33)) then some true else 
      Option.bind (byteI x0 s1) fun (y3 : Int) =>
      some (decide (y3 > 126))
      ) fun (y2 : Bool) =>
    Option.bind (bif y2 then some true else 
      Option.bind (byteI x0 s1) fun (y5 : Int) =>
      some (y5 == 47)
      ) fun (y4 : Bool) =>
    (bif y4 then
      some (.done (.ret false))
    else
      some (.next (w64 (s1 + 1))))
  else
    some (.done (.fall ())))
def ref03_Valid (x0 : Str) : Option Bool :=
  Option.bind (loopF (ref03_Valid_L1 x0) BIG 0) fun (o1 : Out Unit Bool) => match o1 with
  | .ret r => some r
  | .fall _ =>
    some ((((decide ((x0.length : Int) ≥ 1)) && (decide ((x0.length : Int) ≤ 64))) && (!(x0 == [46]))) && (!(x0 == [46, 46])))
/-- filespace/filespaceref07.Check -/
def ref07_Check (x0 : api_Dir) : Option Int :=
  Option.bind (ref07_Numbers x0) fun (y1 : Bool) =>
  (bif (!y1) then
    some 5
  else
    Option.bind (bif ((!(x0.Name_ == [])) && (!(x0.Name_ == [47]))) then 
      Option.bind (ref03_Valid x0.Name_) fun (y3 : Bool) =>
      some (!y3)
       else some false) fun (y2 : Bool) =>
    (bif (((y2 || (decide ((x0.Uid_.length : Int) > 64))) || (decide ((x0.Gid_.length : Int) > 64))) || (decide ((x0.Muid_.length : Int) > 64))) then
      some 6
    else
      some 0))
/-- filespace/filespaceref07.little -/
def ref07_little_L1 (x1 : Int) (x0 : Int) (s1 : Str × Int) : Option (Step (Str × Int) Str) :=
  (bif (decide (s1.2 < x1)) then
    Option.bind (shrI .i64 x0 (w64 (8 * s1.2))) fun (y1 : Int) =>
    Option.bind (cat s1.1 (bytesS [(IntKind.u8.wrap y1)])) fun (y2 : Str) =>
    some (.next (y2, (w64 (s1.2 + 1))))
  else
    some (.done s1.1))
def ref07_little (x0 : Int) (x1 : Int) : Option Str :=
  Option.bind (loopF (ref07_little_L1 x1 x0) BIG ([], 0)) fun (o1 : Str) =>
  some o1
/-- filespace/filespaceref07.counted -/
def ref07_counted (x0 : Str) : Option Str :=
  Option.bind (ref07_little (x0.length : Int) 2) fun (y1 : Str) =>
  Option.bind (cat y1 x0) fun (y2 : Str) =>
  some y2
/-- filespace/filespaceref07.Put -/
def ref07_Put (x0 : api_Dir) : Option (Str × Int) :=
  Option.bind (ref07_Check x0) fun (y1 : Int) =>
  (bif (y1 != 0) then
    some ([], y1)
  else
    Option.bind (ref07_little x0.Qid_.Type_ 1) fun (y2 : Str) =>
    Option.bind (ref07_little x0.Qid_.Vers_ 4) fun (y3 : Str) =>
    Option.bind (cat y2 y3) fun (y4 : Str) =>
    Option.bind (ref07_little x0.Qid_.Path_ 8) fun (y5 : Str) =>
    Option.bind (cat y4 y5) fun (y6 : Str) =>
    Option.bind (ref07_little x0.Type_ 2) fun (y7 : Str) =>
    Option.bind (ref07_little x0.Dev_ 4) fun (y8 : Str) =>
    Option.bind (cat y7 y8) fun (y9 : Str) =>
    Option.bind (cat y9 y6) fun (y10 : Str) =>
    Option.bind (ref07_little x0.Mode_ 4) fun (y11 : Str) =>
    Option.bind (cat y10 y11) fun (y12 : Str) =>
    Option.bind (ref07_little x0.Atime_ 8) fun (y13 : Str) =>
    Option.bind (cat y12 y13) fun (y14 : Str) =>
    Option.bind (ref07_little x0.Mtime_ 8) fun (y15 : Str) =>
    Option.bind (cat y14 y15) fun (y16 : Str) =>
    Option.bind (ref07_little x0.Length_ 8) fun (y17 : Str) =>
    Option.bind (cat y16 y17) fun (y18 : Str) =>
    Option.bind (ref07_counted x0.Name_) fun (y19 : Str) =>
    Option.bind (cat y18 y19) fun (y20 : Str) =>
    Option.bind (ref07_counted x0.Uid_) fun (y21 : Str) =>
    Option.bind (cat y20 y21) fun (y22 : Str) =>
    Option.bind (ref07_counted x0.Gid_) fun (y23 : Str) =>
    Option.bind (cat y22 y23) fun (y24 : Str) =>
    Option.bind (ref07_counted x0.Muid_) fun (y25 : Str) =>
    Option.bind (cat y24 y25) fun (y26 : Str) =>
    Option.bind (ref07_little (y26.length : Int) 2) fun (y27 : Str) =>
    Option.bind (cat y27 y26) fun (y28 : Str) =>
    some (y28, 0))
/-- filespace/filespaceref11.entries -/
def ref11_entries_L1 (x0 : List api_Dir) (s1 : (List Str) × Int) : Option (Step ((List Str) × Int) (Out (List Str) ((List Str) × Int))) :=
  (bif (decide (s1.2 < (x0.length : Int))) then
    Option.bind (getI x0 s1.2) fun (y1 : api_Dir) =>
    Option.bind (ref07_Put y1) fun (y2 : Str × Int) =>
    (bif (y2.2 != 0) then
      some (.done (.ret ([], y2.2)))
    else
      Option.bind (room 16 s1.1 [y2.1]) fun (y3 : List Str) =>
      some (.next (y3, (w64 (s1.2 + 1)))))
  else
    some (.done (.fall s1.1)))
def ref11_entries (x0 : List api_Dir) : Option ((List Str) × Int) :=
  Option.bind (loopF (ref11_entries_L1 x0) BIG ([], 0)) fun (o1 : Out (List Str) ((List Str) × Int)) => match o1 with
  | .ret r => some r
  | .fall s1 =>
    some (s1, 0)
/-- filespace/filespaceref11.Page -/
def ref11_Page_L1 (y1 : (List Str) × Int) (x1 : Int) (s1 : Int × Int) : Option (Step (Int × Int) (Int × Int)) :=
  (bif ((decide (s1.2 < (y1.1.length : Int))) && (decide (s1.1 < x1))) then
    Option.bind (getI y1.1 s1.2) fun (y2 : Str) =>
    some (.next ((w64 (s1.1 + (y2.length : Int))), (w64 (s1.2 + 1))))
  else
    some (.done (s1.1, s1.2)))
def ref11_Page_L2 (y1 : (List Str) × Int) (x2 : Int) (s2 : Int × Str) : Option (Step (Int × Str) Str) :=
  Option.bind (bif (decide (s2.1 < (y1.1.length : Int))) then 
    Option.bind (getI y1.1 s2.1) fun (y6 : Str) =>
    some (decide ((y6.length : Int) ≤ (w64 (x2 - (s2.2.length : Int)))))
     else some false) fun (y5 : Bool) =>
  (bif y5 then
    Option.bind (getI y1.1 s2.1) fun (y7 : Str) =>
    Option.bind (cat s2.2 y7) fun (y8 : Str) =>
    some (.next ((w64 (s2.1 + 1)), y8))
  else
    some (.done s2.2))
def ref11_Page (x0 : List api_Dir) (x1 : Int) (x2 : Int) : Option (Str × Int) :=
  (bif ((decide (x1 < 0)) || (decide (x2 < 0))) then
    some ([], 1)
  else
    Option.bind (ref11_entries x0) fun (y1 : (List Str) × Int) =>
    (bif (y1.2 != 0) then
      some ([], y1.2)
    else
      Option.bind (loopF (ref11_Page_L1 y1 x1) BIG (0, 0)) fun (o1 : Int × Int) =>
      (bif (o1.1 != x1) then
        some ([], 20)
      else
        Option.bind (bif (decide (o1.2 < (y1.1.length : Int))) then 
          Option.bind (getI y1.1 o1.2) fun (y4 : Str) =>
          some (decide ((y4.length : Int) > x2))
           else some false) fun (y3 : Bool) =>
        (bif y3 then
          some ([], 3)
        else
          Option.bind (loopF (ref11_Page_L2 y1 x2) BIG (o1.2, [])) fun (o2 : Str) =>
          some (o2, 0)))))
/-- filespace/filespacelaw11.DirreadPages -/
def law11_DirreadPages (x0 : List api_Dir) (x1 : Int) (x2 : Int) : Option Bool :=
  Option.bind (law11_small x0) fun (y1 : Bool) =>
  (bif (!y1) then
    Option.bind (law11_awake) fun (y2 : Bool) =>
    some y2
  else
    Option.bind (dirread_Page x0 x1 x2) fun (y3 : Str × Int) =>
    Option.bind (ref11_Page x0 x1 x2) fun (y4 : Str × Int) =>
    Option.bind (bif ((y3.1 == y4.1) && (y3.2 == y4.2)) then 
      Option.bind (law11_awake) fun (y6 : Bool) =>
      some y6
       else some false) fun (y5 : Bool) =>
    some y5)
/-- filespace/filespaceref11.Bounds -/
def ref11_Bounds_L1 (y1 : (List Str) × Int) (s1 : (List Int) × Int) : Option (Step ((List Int) × Int) (List Int)) :=
  (bif (decide (s1.2 < (y1.1.length : Int))) then
    Option.bind (getI s1.1 s1.2) fun (y2 : Int) =>
    Option.bind (getI y1.1 s1.2) fun (y3 : Str) =>
    Option.bind (room 8 s1.1 [(w64 (y2 + (y3.length : Int)))]) fun (y4 : List Int) =>
    some (.next (y4, (w64 (s1.2 + 1))))
  else
    some (.done s1.1))
def ref11_Bounds (x0 : List api_Dir) : Option ((List Int) × Int) :=
  Option.bind (ref11_entries x0) fun (y1 : (List Str) × Int) =>
  (bif (y1.2 != 0) then
    some ([], y1.2)
  else
    Option.bind (loopF (ref11_Bounds_L1 y1) BIG ([0], 0)) fun (o1 : (List Int)) =>
    some (o1, 0))
/-- filespace/filespaceref11.SameInts -/
def ref11_SameInts_L1 (x0 : List Int) (x1 : List Int) (s1 : Int) : Option (Step Int (Out Unit Bool)) :=
  (bif (decide (s1 < (x0.length : Int))) then
    Option.bind (getI x0 s1) fun (y1 : Int) =>
    Option.bind (getI x1 s1) fun (y2 : Int) =>
    (bif (y1 != y2) then
      some (.done (.ret false))
    else
      some (.next (w64 (s1 + 1))))
  else
    some (.done (.fall ())))
def ref11_SameInts (x0 : List Int) (x1 : List Int) : Option Bool :=
  (bif ((x0.length : Int) != (x1.length : Int)) then
    some false
  else
    Option.bind (loopF (ref11_SameInts_L1 x0 x1) BIG 0) fun (o1 : Out Unit Bool) => match o1 with
    | .ret r => some r
    | .fall _ =>
      some true)
/-- filespace/filespacelaw11.DirreadBounds -/
def law11_DirreadBounds_L1 (y3 : (List Int) × Int) (x1 : Int) (s1 : Bool × Int) : Option (Step (Bool × Int) Bool) :=
  (bif (decide (s1.2 < (y3.1.length : Int))) then
    Option.bind (bif s1.1 then some true else 
      Option.bind (getI y3.1 s1.2) fun (y8 : Int) =>
      some (y8 == x1)
      ) fun (y7 : Bool) =>
    some (.next (y7, (w64 (s1.2 + 1))))
  else
    some (.done s1.1))
def law11_DirreadBounds (x0 : List api_Dir) (x1 : Int) : Option Bool :=
  Option.bind (law11_small x0) fun (y1 : Bool) =>
  (bif (!y1) then
    Option.bind (law11_awake) fun (y2 : Bool) =>
    some y2
  else
    Option.bind (dirread_Bounds x0) fun (y3 : (List Int) × Int) =>
    Option.bind (ref11_Bounds x0) fun (y4 : (List Int) × Int) =>
    Option.bind (ref11_SameInts y3.1 y4.1) fun (y5 : Bool) =>
    (bif ((!y5) || (y3.2 != y4.2)) then
      some false
    else
      (bif ((y3.2 != 0) || (decide (x1 < 0))) then
        Option.bind (law11_awake) fun (y6 : Bool) =>
        some y6
      else
        Option.bind (loopF (law11_DirreadBounds_L1 y3 x1) BIG (false, 0)) fun (o1 : Bool) =>
        Option.bind (dirread_Page x0 x1 1099511627776) fun (y9 : Str × Int) =>
        Option.bind (bif (((y9.2 == 0) == o1) && (!((y9.2 == 20) == o1))) then 
          Option.bind (law11_awake) fun (y11 : Bool) =>
          some y11
           else some false) fun (y10 : Bool) =>
        some y10)))
/-- filespace/filespaceref11.All -/
def ref11_All_L1 (x0 : List api_Dir) (x1 : Int) (s1 : Str × Int) : Option (Step (Str × Int) (Out Str (Str × Int))) :=
  (bif (decide (s1.2 ≤ (x0.length : Int))) then
    Option.bind (ref11_Page x0 (s1.1.length : Int) x1) fun (y1 : Str × Int) =>
    (bif (y1.2 != 0) then
      some (.done (.ret ([], y1.2)))
    else
      Option.bind (cat s1.1 y1.1) fun (y2 : Str) =>
      some (.next (y2, (w64 (s1.2 + 1)))))
  else
    some (.done (.fall s1.1)))
def ref11_All (x0 : List api_Dir) (x1 : Int) : Option (Str × Int) :=
  Option.bind (loopF (ref11_All_L1 x0 x1) BIG ([], 0)) fun (o1 : Out Str (Str × Int)) => match o1 with
  | .ret r => some r
  | .fall s1 =>
    some (s1, 0)
/-- filespace/filespacelaw11.DirreadAlls -/
def law11_DirreadAlls (x0 : List api_Dir) (x1 : Int) : Option Bool :=
  Option.bind (law11_small x0) fun (y1 : Bool) =>
  (bif (!y1) then
    Option.bind (law11_awake) fun (y2 : Bool) =>
    some y2
  else
    Option.bind (dirread_All x0 x1) fun (y3 : Str × Int) =>
    Option.bind (ref11_All x0 x1) fun (y4 : Str × Int) =>
    Option.bind (bif ((y3.1 == y4.1) && (y3.2 == y4.2)) then 
      Option.bind (law11_awake) fun (y6 : Bool) =>
      some y6
       else some false) fun (y5 : Bool) =>
    some y5)
/-- filespace/filespacelaw11.DirreadJoins -/
def law11_DirreadJoins_L2 (y4 : (List Int) × Int) (y11 : Str) (y7 : Str × Int) (x1 : Int) (s2 : Int) : Option (Step Int (Out Unit Bool)) :=
  (bif (decide (s2 < (y4.1.length : Int))) then
    Option.bind (getI y4.1 s2) fun (y12 : Int) =>
    Option.bind (bif ((decide (y12 > (y11.length : Int))) && (!(y7.1 == []))) then 
      Option.bind (getI y4.1 s2) fun (y14 : Int) =>
      some (decide ((w64 (y14 - (w64 ((y11.length : Int) - (y7.1.length : Int))))) ≤ x1))
       else some false) fun (y13 : Bool) =>
    (bif y13 then
      some (.done (.ret false))
    else
      some (.next (w64 (s2 + 1))))
  else
    some (.done (.fall ())))
def law11_DirreadJoins_L1 (x0 : List api_Dir) (x1 : Int) (y4 : (List Int) × Int) (s1 : Str × Int) : Option (Step (Str × Int) (Out Str Bool)) :=
  (bif (decide (s1.2 ≤ (x0.length : Int))) then
    Option.bind (dirread_Page x0 (s1.1.length : Int) x1) fun (y7 : Str × Int) =>
    Option.bind (bif ((y7.2 != 0) || (decide ((y7.1.length : Int) > x1))) then some true else 
      Option.bind (bif (decide (s1.2 ≥ (y4.1.length : Int))) then some true else 
        Option.bind (getI y4.1 (w64 ((y4.1.length : Int) - 1))) fun (y10 : Int) =>
        some ((s1.1.length : Int) == y10)
        ) fun (y9 : Bool) =>
      some (!((y7.1 == []) == y9))
      ) fun (y8 : Bool) =>
    (bif y8 then
      some (.done (.ret false))
    else
      Option.bind (cat s1.1 y7.1) fun (y11 : Str) =>
      Option.bind (loopF (law11_DirreadJoins_L2 y4 y11 y7 x1) BIG 0) fun (o2 : Out Unit Bool) => match o2 with
      | .ret r => some (.done (.ret r))
      | .fall _ =>
        some (.next (y11, (w64 (s1.2 + 1)))))
  else
    some (.done (.fall s1.1)))
def law11_DirreadJoins (x0 : List api_Dir) (x1 : Int) : Option Bool :=
  Option.bind (law11_small x0) fun (y1 : Bool) =>
  (bif (!y1) then
    Option.bind (law11_awake) fun (y2 : Bool) =>
    some y2
  else
    Option.bind (dirread_All x0 x1) fun (y3 : Str × Int) =>
    Option.bind (dirread_Bounds x0) fun (y4 : (List Int) × Int) =>
    (bif ((y3.2 != 0) || (y4.2 != 0)) then
      Option.bind (bif (y3.1 == []) then 
        Option.bind (law11_awake) fun (y6 : Bool) =>
        some y6
         else some false) fun (y5 : Bool) =>
      some y5
    else
      Option.bind (loopF (law11_DirreadJoins_L1 x0 x1 y4) BIG ([], 0)) fun (o1 : Out Str Bool) => match o1 with
      | .ret r => some r
      | .fall s1 =>
        Option.bind (bif (s1 == y3.1) then 
          Option.bind (law11_awake) fun (y16 : Bool) =>
          some y16
           else some false) fun (y15 : Bool) =>
        some y15))
/-- filespace/filespacelaw07.short -/
def law07_short (x0 : api_Dir) : Option Bool :=
  some ((((decide ((x0.Name_.length : Int) ≤ 1000)) && (decide ((x0.Uid_.length : Int) ≤ 1000))) && (decide ((x0.Gid_.length : Int) ≤ 1000))) && (decide ((x0.Muid_.length : Int) ≤ 1000)))
/-- filespace/octet.Get -/
def octet_Get_L1 (x0 : Str) (x1 : Int) (s1 : Int × Int) : Option (Step (Int × Int) Int) :=
  (bif (decide (s1.2 ≥ 0)) then
    Option.bind (byteI x0 (w64 (x1 + s1.2))) fun (y1 : Int) =>
    some (.next ((orI .u64 (IntKind.u64.wrap (s1.1 * 2 ^ 8)) (IntKind.u64.wrap y1)), (w64 (s1.2 - 1))))
  else
    some (.done s1.1))
def octet_Get (x0 : Str) (x1 : Int) (x2 : Int) : Option (Int × Int × Int) :=
  (bif ((((decide (x2 < 1)) || (decide (x2 > 8))) || (decide (x1 < 0))) || (decide (x1 > (x0.length : Int)))) then
    some (0, 0, 1)
  else
    (bif (decide ((w64 ((x0.length : Int) - x1)) < x2)) then
      some (0, 0, 3)
    else
      Option.bind (loopF (octet_Get_L1 x0 x1) BIG (0, (w64 (x2 - 1)))) fun (o1 : Int) =>
      (bif (decide (o1 > 9223372036854775807)) then
        some (0, 0, 5)
      else
        some ((IntKind.i64.wrap o1), (w64 (x1 + x2)), 0))))
/-- (*filespace/stat.reader).number -/
def stat_reader_number (x0 : stat_reader) (x1 : Int) : Option (Int × stat_reader) :=
  (bif ((!x0.ok_) || (decide ((w64 ((x0.s_.length : Int) - x0.at_)) < x1))) then
    some (0, (stat_reader.mk x0.s_ x0.at_ false))
  else
    Option.bind (subI x0.s_ x0.at_ (w64 (x0.at_ + x1))) fun (y1 : Str) =>
    Option.bind (strings_Count y1 [255]) fun (y2 : Int) =>
    (bif (y2 == x1) then
      some ((-1), (stat_reader.mk x0.s_ (w64 (x0.at_ + x1)) x0.ok_))
    else
      Option.bind (octet_Get y1 0 x1) fun (y3 : Int × Int × Int) =>
      (bif (y3.2.2 != 0) then
        some ((-2), (stat_reader.mk x0.s_ (w64 (x0.at_ + x1)) x0.ok_))
      else
        some (y3.1, (stat_reader.mk x0.s_ (w64 (x0.at_ + x1)) x0.ok_)))))
/-- filespace/octet.GetText -/
def octet_GetText (x0 : Str) (x1 : Int) : Option (Str × Int × Int) :=
  Option.bind (octet_Get x0 x1 2) fun (y1 : Int × Int × Int) =>
  (bif (y1.2.2 != 0) then
    some ([], 0, y1.2.2)
  else
    (bif (decide ((w64 ((x0.length : Int) - y1.2.1)) < y1.1)) then
      some ([], 0, 3)
    else
      Option.bind (subI x0 y1.2.1 (w64 (y1.2.1 + y1.1))) fun (y2 : Str) =>
      some (y2, (w64 (y1.2.1 + y1.1)), 0)))
/-- (*filespace/stat.reader).text -/
def stat_reader_text (x0 : stat_reader) : Option (Str × stat_reader) :=
  (bif (!x0.ok_) then
    some ([], x0)
  else
    Option.bind (octet_GetText x0.s_ x0.at_) fun (y1 : Str × Int × Int) =>
    (bif (y1.2.2 != 0) then
      some ([], (stat_reader.mk x0.s_ x0.at_ false))
    else
      some (y1.1, (stat_reader.mk x0.s_ y1.2.1 x0.ok_))))
/-- (*filespace/stat.reader).read -/
def stat_reader_read (x0 : stat_reader) : Option (api_Dir × stat_reader) :=
  Option.bind (stat_reader_number x0 2) fun (y1 : Int × stat_reader) =>
  Option.bind (stat_reader_number y1.2 4) fun (y2 : Int × stat_reader) =>
  Option.bind (stat_reader_number y2.2 1) fun (y3 : Int × stat_reader) =>
  Option.bind (stat_reader_number y3.2 4) fun (y4 : Int × stat_reader) =>
  Option.bind (stat_reader_number y4.2 8) fun (y5 : Int × stat_reader) =>
  Option.bind (stat_reader_number y5.2 4) fun (y6 : Int × stat_reader) =>
  Option.bind (stat_reader_number y6.2 8) fun (y7 : Int × stat_reader) =>
  Option.bind (stat_reader_number y7.2 8) fun (y8 : Int × stat_reader) =>
  Option.bind (stat_reader_number y8.2 8) fun (y9 : Int × stat_reader) =>
  Option.bind (stat_reader_text y9.2) fun (y10 : Str × stat_reader) =>
  Option.bind (stat_reader_text y10.2) fun (y11 : Str × stat_reader) =>
  Option.bind (stat_reader_text y11.2) fun (y12 : Str × stat_reader) =>
  Option.bind (stat_reader_text y12.2) fun (y13 : Str × stat_reader) =>
  some ((api_Dir.mk y1.1 y2.1 (api_Qid.mk y3.1 y4.1 y5.1) y6.1 y7.1 y8.1 y9.1 y10.1 y11.1 y12.1 y13.1), y13.2)
/-- filespace/stat.Get -/
def stat_Get (x0 : Str) (x1 : Int) : Option (api_Dir × Int × Int) :=
  Option.bind (octet_Get x0 x1 2) fun (y1 : Int × Int × Int) =>
  (bif (y1.2.2 != 0) then
    some ((api_Dir.mk 0 0 (api_Qid.mk 0 0 0) 0 0 0 0 [] [] [] []), 0, y1.2.2)
  else
    (bif (decide ((w64 ((x0.length : Int) - y1.2.1)) < y1.1)) then
      some ((api_Dir.mk 0 0 (api_Qid.mk 0 0 0) 0 0 0 0 [] [] [] []), 0, 3)
    else
      Option.bind (subI x0 y1.2.1 (w64 (y1.2.1 + y1.1))) fun (y2 : Str) =>
      Option.bind (stat_reader_read (stat_reader.mk y2 0 true)) fun (y3 : api_Dir × stat_reader) =>
      (bif ((!y3.2.ok_) || (y3.2.at_ != y1.1)) then
        some ((api_Dir.mk 0 0 (api_Qid.mk 0 0 0) 0 0 0 0 [] [] [] []), 0, 2)
      else
        Option.bind (stat_Check y3.1) fun (y4 : Int) =>
        (bif (y4 != 0) then
          some ((api_Dir.mk 0 0 (api_Qid.mk 0 0 0) 0 0 0 0 [] [] [] []), 0, y4)
        else
          some (y3.1, (w64 (y1.2.1 + y1.1)), 0)))))
/-- filespace/stat.None -/
def stat_None  : Option api_Dir :=
  some (api_Dir.mk (-1) (-1) (api_Qid.mk (-1) (-1) (-1)) (-1) (-1) (-1) (-1) [] [] [] [])
/-- filespace/stat.Changes -/
def stat_Changes (x0 : api_Dir) : Option Bool :=
  Option.bind (stat_None) fun (y1 : api_Dir) =>
  some (!(decide (x0 = y1)))
/-- filespace/filespacelaw07.awake -/
def law07_awake  : Option Bool :=
  Option.bind (stat_Put (api_Dir.mk 1 0 (api_Qid.mk 128 2 1) 2147484141 5 6 0 [47] [97, 100, 109] [97, 100, 109] [])) fun (y1 : Str × Int) =>
  Option.bind (bif ((y1.2 != 0) || ((y1.1.length : Int) != 64)) then some true else 
    Option.bind (byteI y1.1 0) fun (y3 : Int) =>
    some (y3 != 62)
    ) fun (y2 : Bool) =>
  (bif y2 then
    some false
  else
    Option.bind (stat_Get y1.1 0) fun (y4 : api_Dir × Int × Int) =>
    Option.bind (bif (((y4.2.2 == 0) && (y4.2.1 == 64)) && (decide (y4.1 = (api_Dir.mk 1 0 (api_Qid.mk 128 2 1) 2147484141 5 6 0 [47] [97, 100, 109] [97, 100, 109] [])))) then 
      Option.bind (stat_Changes (api_Dir.mk 1 0 (api_Qid.mk 128 2 1) 2147484141 5 6 0 [47] [97, 100, 109] [97, 100, 109] [])) fun (y6 : Bool) =>
      some y6
       else some false) fun (y5 : Bool) =>
    Option.bind (bif y5 then 
      Option.bind (stat_None) fun (y8 : api_Dir) =>
      Option.bind (stat_Changes y8) fun (y9 : Bool) =>
      some (!y9)
       else some false) fun (y7 : Bool) =>
    some y7)
/-- filespace/filespacelaw07.StatChecks -/
def law07_StatChecks (x0 : api_Dir) : Option Bool :=
  Option.bind (law07_short x0) fun (y1 : Bool) =>
  (bif (!y1) then
    Option.bind (law07_awake) fun (y2 : Bool) =>
    some y2
  else
    Option.bind (stat_Check x0) fun (y3 : Int) =>
    Option.bind (ref07_Check x0) fun (y4 : Int) =>
    Option.bind (bif (y3 == y4) then 
      Option.bind (law07_awake) fun (y6 : Bool) =>
      some y6
       else some false) fun (y5 : Bool) =>
    some y5)
/-- filespace/filespacelaw07.StatPuts -/
def law07_StatPuts (x0 : api_Dir) : Option Bool :=
  Option.bind (law07_short x0) fun (y1 : Bool) =>
  (bif (!y1) then
    Option.bind (law07_awake) fun (y2 : Bool) =>
    some y2
  else
    Option.bind (stat_Put x0) fun (y3 : Str × Int) =>
    Option.bind (ref07_Put x0) fun (y4 : Str × Int) =>
    Option.bind (bif ((y3.1 == y4.1) && (y3.2 == y4.2)) then 
      Option.bind (law07_awake) fun (y6 : Bool) =>
      some y6
       else some false) fun (y5 : Bool) =>
    some y5)
/-- filespace/filespaceref07.texts -/
def ref07_texts_L1 (x0 : Str) (s1 : Arr4_string × Int × Int) : Option (Step (Arr4_string × Int × Int) (Out (Arr4_string × Int) (Arr4_string × Bool))) :=
  (bif (decide (s1.2.2 < 4)) then
    (bif (decide ((w64 ((x0.length : Int) - s1.2.1)) < 2)) then
      some (.done (.ret (s1.1, false)))
    else
      Option.bind (byteI x0 s1.2.1) fun (y1 : Int) =>
      Option.bind (byteI x0 (w64 (s1.2.1 + 1))) fun (y2 : Int) =>
      (bif (decide ((w64 ((w64 ((x0.length : Int) - s1.2.1)) - 2)) < (w64 ((IntKind.i64.wrap y1) + (w64 (256 * (IntKind.i64.wrap y2))))))) then
        some (.done (.ret (s1.1, false)))
      else
        Option.bind (subI x0 (w64 (s1.2.1 + 2)) (w64 ((w64 (s1.2.1 + 2)) + (w64 ((IntKind.i64.wrap y1) + (w64 (256 * (IntKind.i64.wrap y2)))))))) fun (y3 : Str) =>
        Option.bind (boundI 4 s1.2.2) fun (_ : Unit) =>
        some (.next ((Arr4_string.put s1.1 s1.2.2 y3), (w64 ((w64 (s1.2.1 + 2)) + (w64 ((IntKind.i64.wrap y1) + (w64 (256 * (IntKind.i64.wrap y2))))))), (w64 (s1.2.2 + 1))))))
  else
    some (.done (.fall (s1.1, s1.2.1))))
def ref07_texts (x0 : Str) : Option (Arr4_string × Bool) :=
  Option.bind (loopF (ref07_texts_L1 x0) BIG ((Arr4_string.mk [] [] [] []), 0, 0)) fun (o1 : Out (Arr4_string × Int) (Arr4_string × Bool)) => match o1 with
  | .ret r => some r
  | .fall s1 =>
    some (s1.1, (s1.2 == (x0.length : Int)))
/-- filespace/filespaceref07.number -/
def ref07_number_L1 (x0 : Str) (x1 : Int) (s1 : Int × Bool × Int) : Option (Step (Int × Bool × Int) (Int × Bool)) :=
  (bif (decide (s1.2.2 ≥ 0)) then
    Option.bind (
      Option.bind (bif s1.2.1 then 
        Option.bind (byteI x0 (w64 (x1 + s1.2.2))) fun (y2 : Int) =>
        some (y2 == 255)
         else some false) fun (y1 : Bool) =>
      (bif (decide (s1.1 ≥ 36028797018963968)) then
        some (9223372036854775807, y1)
      else
        Option.bind (byteI x0 (w64 (x1 + s1.2.2))) fun (y3 : Int) =>
        some ((w64 ((w64 (s1.1 * 256)) + (IntKind.i64.wrap y3))), y1))
      ) fun (o2 : Int × Bool) =>
    some (.next (o2.1, o2.2, (w64 (s1.2.2 - 1))))
  else
    some (.done (s1.1, s1.2.1)))
def ref07_number (x0 : Str) (x1 : Int) (x2 : Int) : Option Int :=
  Option.bind (loopF (ref07_number_L1 x0 x1) BIG (0, true, (w64 (x2 - 1)))) fun (o1 : Int × Bool) =>
  (bif o1.2 then
    some (-1)
  else
    some o1.1)
/-- filespace/filespaceref07.Get -/
def ref07_Get (x0 : Str) (x1 : Int) : Option (api_Dir × Int × Int) :=
  (bif ((decide (x1 < 0)) || (decide (x1 > (x0.length : Int)))) then
    some ((api_Dir.mk 0 0 (api_Qid.mk 0 0 0) 0 0 0 0 [] [] [] []), 0, 1)
  else
    (bif (decide ((w64 ((x0.length : Int) - x1)) < 2)) then
      some ((api_Dir.mk 0 0 (api_Qid.mk 0 0 0) 0 0 0 0 [] [] [] []), 0, 3)
    else
      Option.bind (byteI x0 x1) fun (y1 : Int) =>
      Option.bind (byteI x0 (w64 (x1 + 1))) fun (y2 : Int) =>
      (bif (decide ((w64 ((w64 ((x0.length : Int) - x1)) - 2)) < (w64 ((IntKind.i64.wrap y1) + (w64 (256 * (IntKind.i64.wrap y2))))))) then
        some ((api_Dir.mk 0 0 (api_Qid.mk 0 0 0) 0 0 0 0 [] [] [] []), 0, 3)
      else
        Option.bind (subI x0 (w64 (x1 + 2)) (w64 ((w64 (x1 + 2)) + (w64 ((IntKind.i64.wrap y1) + (w64 (256 * (IntKind.i64.wrap y2)))))))) fun (y3 : Str) =>
        (bif (decide ((w64 ((IntKind.i64.wrap y1) + (w64 (256 * (IntKind.i64.wrap y2))))) < 47)) then
          some ((api_Dir.mk 0 0 (api_Qid.mk 0 0 0) 0 0 0 0 [] [] [] []), 0, 2)
        else
          Option.bind (subI y3 47 y3.length) fun (y4 : Str) =>
          Option.bind (ref07_texts y4) fun (y5 : Arr4_string × Bool) =>
          (bif (!y5.2) then
            some ((api_Dir.mk 0 0 (api_Qid.mk 0 0 0) 0 0 0 0 [] [] [] []), 0, 2)
          else
            Option.bind (ref07_number y3 6 1) fun (y6 : Int) =>
            Option.bind (ref07_number y3 7 4) fun (y7 : Int) =>
            Option.bind (ref07_number y3 11 8) fun (y8 : Int) =>
            Option.bind (ref07_number y3 0 2) fun (y9 : Int) =>
            Option.bind (ref07_number y3 2 4) fun (y10 : Int) =>
            Option.bind (ref07_number y3 19 4) fun (y11 : Int) =>
            Option.bind (ref07_number y3 23 8) fun (y12 : Int) =>
            Option.bind (ref07_number y3 31 8) fun (y13 : Int) =>
            Option.bind (ref07_number y3 39 8) fun (y14 : Int) =>
            Option.bind (ref07_Check (api_Dir.mk y9 y10 (api_Qid.mk y6 y7 y8) y11 y12 y13 y14 y5.1.a0_ y5.1.a1_ y5.1.a2_ y5.1.a3_)) fun (y15 : Int) =>
            (bif (y15 != 0) then
              some ((api_Dir.mk 0 0 (api_Qid.mk 0 0 0) 0 0 0 0 [] [] [] []), 0, y15)
            else
              some ((api_Dir.mk y9 y10 (api_Qid.mk y6 y7 y8) y11 y12 y13 y14 y5.1.a0_ y5.1.a1_ y5.1.a2_ y5.1.a3_), (w64 ((w64 (x1 + 2)) + (w64 ((IntKind.i64.wrap y1) + (w64 (256 * (IntKind.i64.wrap y2))))))), 0)))))))
/-- filespace/filespacelaw07.StatGets -/
def law07_StatGets (x0 : Str) (x1 : Int) : Option Bool :=
  (bif (decide ((x0.length : Int) > 5000)) then
    Option.bind (law07_awake) fun (y1 : Bool) =>
    some y1
  else
    Option.bind (stat_Get x0 x1) fun (y2 : api_Dir × Int × Int) =>
    Option.bind (ref07_Get x0 x1) fun (y3 : api_Dir × Int × Int) =>
    Option.bind (bif (((decide (y2.1 = y3.1)) && (y2.2.1 == y3.2.1)) && (y2.2.2 == y3.2.2)) then 
      Option.bind (law07_awake) fun (y5 : Bool) =>
      some y5
       else some false) fun (y4 : Bool) =>
    some y4)
/-- filespace/filespaceref07.None -/
def ref07_None  : Option api_Dir :=
  some (api_Dir.mk (-1) (-1) (api_Qid.mk (-1) (-1) (-1)) (-1) (-1) (-1) (-1) [] [] [] [])
/-- filespace/filespacelaw07.StatNones -/
def law07_StatNones (x0 : api_Dir) : Option Bool :=
  Option.bind (stat_None) fun (y1 : api_Dir) =>
  Option.bind (ref07_None) fun (y2 : api_Dir) =>
  Option.bind (bif (decide (y1 = y2)) then 
    Option.bind (stat_None) fun (y4 : api_Dir) =>
    Option.bind (stat_Check y4) fun (y5 : Int) =>
    some (y5 == 0)
     else some false) fun (y3 : Bool) =>
  Option.bind (bif y3 then 
    Option.bind (stat_Changes x0) fun (y7 : Bool) =>
    Option.bind (ref07_None) fun (y8 : api_Dir) =>
    some (y7 == (!(decide (x0 = y8))))
     else some false) fun (y6 : Bool) =>
  Option.bind (bif y6 then 
    Option.bind (law07_awake) fun (y10 : Bool) =>
    some y10
     else some false) fun (y9 : Bool) =>
  some y9
/-- filespace/filespacelaw07.StatReturns -/
def law07_StatReturns (x0 : api_Dir) (x1 : Str) (x2 : Str) : Option Bool :=
  Option.bind (bif ((decide ((x1.length : Int) > 200)) || (decide ((x2.length : Int) > 200))) then some true else 
    Option.bind (ref07_Check x0) fun (y2 : Int) =>
    some (y2 != 0)
    ) fun (y1 : Bool) =>
  (bif y1 then
    Option.bind (law07_awake) fun (y3 : Bool) =>
    some y3
  else
    Option.bind (stat_Put x0) fun (y4 : Str × Int) =>
    Option.bind (cat x1 y4.1) fun (y5 : Str) =>
    Option.bind (cat y5 x2) fun (y6 : Str) =>
    Option.bind (stat_Get y6 (x1.length : Int)) fun (y7 : api_Dir × Int × Int) =>
    Option.bind (bif ((((y4.2 == 0) && (y7.2.2 == 0)) && (decide (y7.1 = x0))) && (y7.2.1 == (w64 ((x1.length : Int) + (y4.1.length : Int))))) then 
      Option.bind (law07_awake) fun (y9 : Bool) =>
      some y9
       else some false) fun (y8 : Bool) =>
    some y8)
/-- filespace/stat.All -/
def stat_All_L1 (x0 : Str) (s1 : (List api_Dir) × Int) : Option (Step ((List api_Dir) × Int) (Out (List api_Dir) ((List api_Dir) × Int))) :=
  (bif (decide (s1.2 < (x0.length : Int))) then
    Option.bind (stat_Get x0 s1.2) fun (y1 : api_Dir × Int × Int) =>
    (bif (y1.2.2 != 0) then
      some (.done (.ret ([], y1.2.2)))
    else
      Option.bind (room 136 s1.1 [y1.1]) fun (y2 : List api_Dir) =>
      some (.next (y2, y1.2.1)))
  else
    some (.done (.fall s1.1)))
def stat_All (x0 : Str) : Option ((List api_Dir) × Int) :=
  Option.bind (loopF (stat_All_L1 x0) BIG ([], 0)) fun (o1 : Out (List api_Dir) ((List api_Dir) × Int)) => match o1 with
  | .ret r => some r
  | .fall s1 =>
    some (s1, 0)
/-- filespace/filespaceref07.All -/
def ref07_All_L1 (x0 : Str) (s1 : (List api_Dir) × Int) : Option (Step ((List api_Dir) × Int) (Out (List api_Dir) ((List api_Dir) × Int))) :=
  (bif (decide (s1.2 < (x0.length : Int))) then
    Option.bind (ref07_Get x0 s1.2) fun (y1 : api_Dir × Int × Int) =>
    (bif (y1.2.2 != 0) then
      some (.done (.ret ([], y1.2.2)))
    else
      Option.bind (room 136 s1.1 [y1.1]) fun (y2 : List api_Dir) =>
      some (.next (y2, y1.2.1)))
  else
    some (.done (.fall s1.1)))
def ref07_All (x0 : Str) : Option ((List api_Dir) × Int) :=
  Option.bind (loopF (ref07_All_L1 x0) BIG ([], 0)) fun (o1 : Out (List api_Dir) ((List api_Dir) × Int)) => match o1 with
  | .ret r => some r
  | .fall s1 =>
    some (s1, 0)
/-- filespace/filespacelaw07.equal -/
def law07_equal_L1 (x0 : List api_Dir) (x1 : List api_Dir) (s1 : Int) : Option (Step Int (Out Unit Bool)) :=
  (bif (decide (s1 < (x0.length : Int))) then
    Option.bind (getI x0 s1) fun (y1 : api_Dir) =>
    Option.bind (getI x1 s1) fun (y2 : api_Dir) =>
    (bif (!(decide (y1 = y2))) then
      some (.done (.ret false))
    else
      some (.next (w64 (s1 + 1))))
  else
    some (.done (.fall ())))
def law07_equal (x0 : List api_Dir) (x1 : List api_Dir) : Option Bool :=
  (bif ((x0.length : Int) != (x1.length : Int)) then
    some false
  else
    Option.bind (loopF (law07_equal_L1 x0 x1) BIG 0) fun (o1 : Out Unit Bool) => match o1 with
    | .ret r => some r
    | .fall _ =>
      some true)
/-- filespace/filespacelaw07.StatLists -/
def law07_StatLists (x0 : Str) : Option Bool :=
  (bif (decide ((x0.length : Int) > 5000)) then
    Option.bind (law07_awake) fun (y1 : Bool) =>
    some y1
  else
    Option.bind (stat_All x0) fun (y2 : (List api_Dir) × Int) =>
    Option.bind (ref07_All x0) fun (y3 : (List api_Dir) × Int) =>
    Option.bind (law07_equal y2.1 y3.1) fun (y4 : Bool) =>
    Option.bind (bif (y4 && (y2.2 == y3.2)) then 
      Option.bind (law07_awake) fun (y6 : Bool) =>
      some y6
       else some false) fun (y5 : Bool) =>
    some y5)
/-- filespace/filespacelaw07.StatJoins -/
def law07_StatJoins_L1 (x0 : List api_Dir) (s1 : Str × Int) : Option (Step (Str × Int) (Out Str Bool)) :=
  (bif (decide (s1.2 < (x0.length : Int))) then
    Option.bind (getI x0 s1.2) fun (y2 : api_Dir) =>
    Option.bind (ref07_Check y2) fun (y3 : Int) =>
    (bif (y3 != 0) then
      Option.bind (law07_awake) fun (y4 : Bool) =>
      some (.done (.ret y4))
    else
      Option.bind (getI x0 s1.2) fun (y5 : api_Dir) =>
      Option.bind (stat_Put y5) fun (y6 : Str × Int) =>
      (bif ((y6.2 != 0) || (decide ((y6.1.length : Int) > 400))) then
        some (.done (.ret false))
      else
        Option.bind (cat s1.1 y6.1) fun (y7 : Str) =>
        some (.next (y7, (w64 (s1.2 + 1))))))
  else
    some (.done (.fall s1.1)))
def law07_StatJoins (x0 : List api_Dir) : Option Bool :=
  (bif (decide ((x0.length : Int) > 20)) then
    Option.bind (law07_awake) fun (y1 : Bool) =>
    some y1
  else
    Option.bind (loopF (law07_StatJoins_L1 x0) BIG ([], 0)) fun (o1 : Out Str Bool) => match o1 with
    | .ret r => some r
    | .fall s1 =>
      Option.bind (stat_All s1) fun (y8 : (List api_Dir) × Int) =>
      Option.bind (bif (y8.2 == 0) then 
        Option.bind (law07_equal x0 y8.1) fun (y10 : Bool) =>
        some y10
         else some false) fun (y9 : Bool) =>
      Option.bind (bif y9 then 
        Option.bind (law07_awake) fun (y12 : Bool) =>
        some y12
         else some false) fun (y11 : Bool) =>
      some y11)
/-- filespace/filespaceref11.Same -/
def ref11_Same_L1 (x0 : List api_Dir) (x1 : List api_Dir) (s1 : Int) : Option (Step Int (Out Unit Bool)) :=
  (bif (decide (s1 < (x0.length : Int))) then
    Option.bind (getI x0 s1) fun (y1 : api_Dir) =>
    Option.bind (getI x1 s1) fun (y2 : api_Dir) =>
    (bif (!(decide (y1 = y2))) then
      some (.done (.ret false))
    else
      some (.next (w64 (s1 + 1))))
  else
    some (.done (.fall ())))
def ref11_Same (x0 : List api_Dir) (x1 : List api_Dir) : Option Bool :=
  (bif ((x0.length : Int) != (x1.length : Int)) then
    some false
  else
    Option.bind (loopF (ref11_Same_L1 x0 x1) BIG 0) fun (o1 : Out Unit Bool) => match o1 with
    | .ret r => some r
    | .fall _ =>
      some true)
/-- filespace/filespacelaw11.DirreadInverse -/
def law11_DirreadInverse (x0 : List api_Dir) (x1 : Int) : Option Bool :=
  Option.bind (law11_small x0) fun (y1 : Bool) =>
  (bif (!y1) then
    Option.bind (law11_awake) fun (y2 : Bool) =>
    some y2
  else
    Option.bind (dirread_All x0 x1) fun (y3 : Str × Int) =>
    (bif (y3.2 != 0) then
      Option.bind (bif (y3.1 == []) then 
        Option.bind (law11_awake) fun (y5 : Bool) =>
        some y5
         else some false) fun (y4 : Bool) =>
      some y4
    else
      Option.bind (stat_All y3.1) fun (y6 : (List api_Dir) × Int) =>
      Option.bind (ref11_Same x0 y6.1) fun (y7 : Bool) =>
      Option.bind (bif (y7 && (y6.2 == 0)) then 
        Option.bind (law11_awake) fun (y9 : Bool) =>
        some y9
         else some false) fun (y8 : Bool) =>
      some y8))
end Go.Proofs.Ytglcohgjcjaamaa
