/-
  What the engine says of each function: printed by a program of ours (gosh2.py) off the translation.
-/
import Derived.Test.YtboplmpnjepdnaaGreatLibR
namespace Go.Proofs.YtboplmpnjepdnaaGreat
open Go.Rt Go.RowKit

/-- filespace/filespacelaw09.small -/
theorem e_6 (a : PA te [.d (.st 2)]) : law09_small a.1 = evFun Tryz.prog te eqL tnil Tryz.f6 [.d (.st 2)] [(.bool, [])] (.s .p (.s .p (.s (.s .p (.lp ⟨[(3, .d (.int .i64)), (51, .d (.int .i64))], [], [1, 50], [0], [], 51⟩ ⟨[(3, .d (.int .i64))], [], [1], [0], [], 51⟩ false .p)) .p))) a := by kernel_rfl
def c_6 : Con te := conOf te [.d (.st 2)] [(.bool, [])] false fun a => law09_small a.1
theorem ok_6 : Con.OK Tryz.prog te 6 c_6 ∧ bodyB Tryz.prog 6 = true := ⟨conOf_ok eqL_ok tnil_ok Tryz.func6 (by kernel_rfl) e_6, by kernel_rfl⟩
/-- filespace/msg.Name -/
theorem e_31 (a : PA te [.d (.int .i64)]) : msg_Name a.1 = evFun Tryz.prog te eqL tnil Tryz.f31 [.d (.int .i64)] [(.str, [])] (.p : Pl) a := by kernel_rfl
def c_31 : Con te := conOf te [.d (.int .i64)] [(.str, [])] false fun a => msg_Name a.1
theorem ok_31 : Con.OK Tryz.prog te 31 c_31 ∧ bodyB Tryz.prog 31 = true := ⟨conOf_ok eqL_ok tnil_ok Tryz.func31 (by kernel_rfl) e_31, by kernel_rfl⟩
/-- filespace/msg.tagged -/
theorem e_35 (a : PA te [.d (.st 2)]) : msg_tagged a.1 = evFun Tryz.prog te eqL tnil Tryz.f35 [.d (.st 2)] [(.bool, [])] (.s .p (.s (.s .p (.j ⟨[(5, .d .bool)], [], [1, 4], [0], [], 5⟩ false .p .p)) .p)) a := by kernel_rfl
def c_35 : Con te := conOf te [.d (.st 2)] [(.bool, [])] false fun a => msg_tagged a.1
theorem ok_35 : Con.OK Tryz.prog te 35 c_35 ∧ bodyB Tryz.prog 35 = true := ⟨conOf_ok eqL_ok tnil_ok Tryz.func35 (by kernel_rfl) e_35, by kernel_rfl⟩
/-- filespace/msg.rest -/
theorem e_72 (a : PA te [.d (.st 2), .d (.st 2)]) : msg_rest a.1 a.2.1 = evFun Tryz.prog te eqL tnil Tryz.f72 [.d (.st 2), .d (.st 2)] [(.st 2, [])] (.s .p (.j ⟨[], [(2, true, .box 30 (.st 2))], [3, 4], [4], [], 6⟩ false (.s .p (.s .p (.s (.dr [0, 0, 0, 0, 0, 0, 0, 1, 4, 1, 4, 1] [] true [2]) (.s .p (.s .p (.s .p (.s (.dr [0, 0, 0, 0, 0, 0, 0, 1, 4, 1, 4, 1] [] true [2]) (.s .p (.s .p (.j ⟨[(39, .d .bool)], [], [2, 3, 4, 6], [0, 2, 4], [], 16⟩ false .p (.s .p (.s .p (.s .p (.s .p (.s (.dr [0, 0, 0, 0, 0, 1, 4, 1] [] true [2]) (.s .p (.s (.dr [0, 0, 0, 0, 0, 0, 0, 1, 4, 1, 4, 1] [] true [2]) (.s .p (.s (.dr [0, 0, 0, 0, 0, 0, 0, 1, 4, 1, 4, 1] [] true [2]) .p))))))))))))))))))) .p)) a := by kernel_rfl
def c_72 : Con te := conOf te [.d (.st 2), .d (.st 2)] [(.st 2, [])] true fun a => msg_rest a.1 a.2.1
theorem ok_72 : Con.OK Tryz.prog te 72 c_72 ∧ bodyB Tryz.prog 72 = true := ⟨conOf_ok eqL_ok tnil_ok Tryz.func72 (by kernel_rfl) e_72, by kernel_rfl⟩
/-- filespace/msg.only -/
theorem e_37 (a : PA te [.d (.st 2)]) : msg_only a.1 = evFun Tryz.prog te eqL (tb 72 c_72 tnil) Tryz.f37 [.d (.st 2)] [(.st 2, [])] (.s .p (.s .p (.j ⟨[], [(9, true, .box 30 (.st 2))], [2, 3], [2], [], 13⟩ true (.s .p (.s .p (.s (.dr [0, 0, 0, 0, 0, 1, 4, 1] [] true [9]) (.s .p (.s (.dr [0, 0, 0, 0, 0, 0, 0, 1, 4, 1, 4, 1] [] true [9]) (.s .p (.s (.dr [0, 0, 0, 0, 0, 0, 0, 1, 4, 1, 4, 1] [] true [9]) (.s .p (.s (.dr [0, 0, 0, 0, 0, 0, 0, 0, 0, 1, 4, 1, 4, 1, 4, 1] [] true [9]) (.j ⟨[(58, .d .bool)], [], [1, 2, 3, 10], [0, 2, 9], [], 23⟩ false .p (.s .p (.s .p (.s .p (.s .p (.s .p (.s .p (.s (.dr [0, 0, 0, 0, 0, 0, 0, 1, 4, 1, 4, 1] [] true [9]) (.s .p (.s .p (.s .p (.s (.dr [0, 0, 0, 0, 0, 1, 4, 1] [] true [9]) (.j ⟨[(98, .d .bool)], [], [1, 2, 3, 10], [0, 2, 9], [], 33⟩ false .p (.s (.dr [0, 0, 0, 0, 0, 1, 4, 1] [] true [9]) (.s .p (.s (.dr [0, 0, 0, 0, 0, 0, 0, 0, 0, 1, 4, 1, 4, 1, 4, 1] [] true [9]) .p))))))))))))))))))))))))) .p))) a := by kernel_rfl
def c_37 : Con te := conOf te [.d (.st 2)] [(.st 2, [])] true fun a => msg_only a.1
theorem ok_37 : Con.OK Tryz.prog te 37 c_37 ∧ bodyB Tryz.prog 37 = true := ⟨conOf_ok eqL_ok (tb_ok ok_72 tnil_ok) Tryz.func37 (by kernel_rfl) e_37, by kernel_rfl⟩
/-- filespace/msg.Same$1 -/
theorem e_68 (a : PA te [.d (.st 2)]) : msg_Same_1 a.1 = evFun Tryz.prog te eqL tnil Tryz.f68 [.d (.st 2)] [(.st 3, [])] (.p : Pl) a := by kernel_rfl
def c_68 : Con te := conOf te [.d (.st 2)] [(.st 3, [])] false fun a => msg_Same_1 a.1
theorem ok_68 : Con.OK Tryz.prog te 68 c_68 ∧ bodyB Tryz.prog 68 = true := ⟨conOf_ok eqL_ok tnil_ok Tryz.func68 (by kernel_rfl) e_68, by kernel_rfl⟩
/-- filespace/msg.Same$2 -/
theorem e_69 (a : PA te [.d (.st 2)]) : msg_Same_2 a.1 = evFun Tryz.prog te eqL tnil Tryz.f69 [.d (.st 2)] [(.st 4, [])] (.p : Pl) a := by kernel_rfl
def c_69 : Con te := conOf te [.d (.st 2)] [(.st 4, [])] false fun a => msg_Same_2 a.1
theorem ok_69 : Con.OK Tryz.prog te 69 c_69 ∧ bodyB Tryz.prog 69 = true := ⟨conOf_ok eqL_ok tnil_ok Tryz.func69 (by kernel_rfl) e_69, by kernel_rfl⟩
/-- slices.Equal[[]string,string] -/
theorem e_70 (a : PA te [.d (.sl .str), .d (.sl .str)]) : slices_Equal_stringstring a.1 a.2.1 = evFun Tryz.prog te eqL tnil Tryz.f70 [.d (.sl .str), .d (.sl .str)] [(.bool, [])] (.s .p (.s .p (.s (.s .p (.lp ⟨[(13, .d (.int .i64))], [], [0, 1, 12], [], [], 9⟩ ⟨[], [], [], [], [], 9⟩ true (.s .p (.s .p (.s (.s .p (.s (.dr [0, 0, 0, 0, 0, 0, 0, 0, 0] [] false []) .p)) .p))))) .p))) a := by kernel_rfl
def c_70 : Con te := conOf te [.d (.sl .str), .d (.sl .str)] [(.bool, [])] false fun a => slices_Equal_stringstring a.1 a.2.1
theorem ok_70 : Con.OK Tryz.prog te 70 c_70 ∧ bodyB Tryz.prog 70 = true := ⟨conOf_ok eqL_ok tnil_ok Tryz.func70 (by kernel_rfl) e_70, by kernel_rfl⟩
/-- slices.Equal[[]filespace/api.Qid,filespace/api.Qid] -/
theorem e_71 (a : PA te [.d (.sl (.st 0)), .d (.sl (.st 0))]) : slices_Equal_apiQidapiQid a.1 a.2.1 = evFun Tryz.prog te eqL tnil Tryz.f71 [.d (.sl (.st 0)), .d (.sl (.st 0))] [(.bool, [])] (.s .p (.s .p (.s (.s .p (.lp ⟨[(13, .d (.int .i64))], [], [0, 1, 12], [], [], 9⟩ ⟨[], [], [], [], [], 9⟩ true (.s .p (.s .p (.s (.s .p (.s (.dr [0, 0, 0, 0, 0, 0, 0, 0, 0] [] false []) .p)) .p))))) .p))) a := by kernel_rfl
def c_71 : Con te := conOf te [.d (.sl (.st 0)), .d (.sl (.st 0))] [(.bool, [])] false fun a => slices_Equal_apiQidapiQid a.1 a.2.1
theorem ok_71 : Con.OK Tryz.prog te 71 c_71 ∧ bodyB Tryz.prog 71 = true := ⟨conOf_ok eqL_ok tnil_ok Tryz.func71 (by kernel_rfl) e_71, by kernel_rfl⟩
/-- filespace/msg.Same -/
theorem e_36 (a : PA te [.d (.st 2), .d (.st 2)]) : msg_Same a.1 a.2.1 = evFun Tryz.prog te eqL (tb 71 c_71 (tb 70 c_70 (tb 69 c_69 (tb 68 c_68 tnil)))) Tryz.f36 [.d (.st 2), .d (.st 2)] [(.bool, [])] (.s .p (.s .p (.s .p (.s (.dr [0, 0, 0, 0, 0, 0, 0, 0, 0, 0, 0, 0, 0, 0, 0, 0, 0, 0, 0, 0, 0, 0, 0, 0, 0, 0, 0, 0, 0, 0, 0, 0, 0, 0, 0, 0, 0, 0, 0, 0, 0, 0, 0, 0, 0, 0, 0, 0, 0, 0, 0, 0, 0, 0, 0, 0, 0, 0, 0] [] false []) .p)))) a := by kernel_rfl
def c_36 : Con te := conOf te [.d (.st 2), .d (.st 2)] [(.bool, [])] false fun a => msg_Same a.1 a.2.1
theorem ok_36 : Con.OK Tryz.prog te 36 c_36 ∧ bodyB Tryz.prog 36 = true := ⟨conOf_ok eqL_ok (tb_ok ok_71 (tb_ok ok_70 (tb_ok ok_69 (tb_ok ok_68 tnil_ok)))) Tryz.func36 (by kernel_rfl) e_36, by kernel_rfl⟩
/-- filespace/msg.in -/
theorem e_74 (a : PA te [.d (.int .i64), .d (.int .i64), .d (.int .i64)]) : msg_in a.1 a.2.1 a.2.2.1 = evFun Tryz.prog te eqL tnil Tryz.f74 [.d (.int .i64), .d (.int .i64), .d (.int .i64)] [(.int .i64, [])] (.p : Pl) a := by kernel_rfl
def c_74 : Con te := conOf te [.d (.int .i64), .d (.int .i64), .d (.int .i64)] [(.int .i64, [])] false fun a => msg_in a.1 a.2.1 a.2.2.1
theorem ok_74 : Con.OK Tryz.prog te 74 c_74 ∧ bodyB Tryz.prog 74 = true := ⟨conOf_ok eqL_ok tnil_ok Tryz.func74 (by kernel_rfl) e_74, by kernel_rfl⟩
/-- filespace/msg.short -/
theorem e_75 (a : PA te [.d .str, .d (.int .i64)]) : msg_short a.1 a.2.1 = evFun Tryz.prog te eqL tnil Tryz.f75 [.d .str, .d (.int .i64)] [(.int .i64, [])] (.p : Pl) a := by kernel_rfl
def c_75 : Con te := conOf te [.d .str, .d (.int .i64)] [(.int .i64, [])] false fun a => msg_short a.1 a.2.1
theorem ok_75 : Con.OK Tryz.prog te 75 c_75 ∧ bodyB Tryz.prog 75 = true := ⟨conOf_ok eqL_ok tnil_ok Tryz.func75 (by kernel_rfl) e_75, by kernel_rfl⟩
/-- filespace/msg.first -/
theorem e_73 (a : PA te [.d (.sl (.int .i64))]) : msg_first a.1 = evFun Tryz.prog te eqL tnil Tryz.f73 [.d (.sl (.int .i64))] [(.int .i64, [])] (.s .p (.s (.s .p (.lp ⟨[(7, .d (.int .i64))], [], [5, 6], [], [], 4⟩ ⟨[], [], [], [], [], 4⟩ true .p)) .p)) a := by kernel_rfl
def c_73 : Con te := conOf te [.d (.sl (.int .i64))] [(.int .i64, [])] false fun a => msg_first a.1
theorem ok_73 : Con.OK Tryz.prog te 73 c_73 ∧ bodyB Tryz.prog 73 = true := ⟨conOf_ok eqL_ok tnil_ok Tryz.func73 (by kernel_rfl) e_73, by kernel_rfl⟩
/-- filespace/msg.fid -/
theorem e_76 (a : PA te [.d (.int .i64)]) : msg_fid a.1 = evFun Tryz.prog te eqL (tb 74 c_74 tnil) Tryz.f76 [.d (.int .i64)] [(.int .i64, [])] (.p : Pl) a := by kernel_rfl
def c_76 : Con te := conOf te [.d (.int .i64)] [(.int .i64, [])] false fun a => msg_fid a.1
theorem ok_76 : Con.OK Tryz.prog te 76 c_76 ∧ bodyB Tryz.prog 76 = true := ⟨conOf_ok eqL_ok (tb_ok ok_74 tnil_ok) Tryz.func76 (by kernel_rfl) e_76, by kernel_rfl⟩
/-- filespace/msg.qid -/
theorem e_77 (a : PA te [.d (.st 0)]) : msg_qid a.1 = evFun Tryz.prog te eqL (tb 73 c_73 (tb 74 c_74 tnil)) Tryz.f77 [.d (.st 0)] [(.int .i64, [])] (.s .p (.s .p (.s (.dr [0, 0, 0, 0, 0, 0, 1, 1, 4] [] false []) .p))) a := by kernel_rfl
def c_77 : Con te := conOf te [.d (.st 0)] [(.int .i64, [])] false fun a => msg_qid a.1
theorem ok_77 : Con.OK Tryz.prog te 77 c_77 ∧ bodyB Tryz.prog 77 = true := ⟨conOf_ok eqL_ok (tb_ok ok_73 (tb_ok ok_74 tnil_ok)) Tryz.func77 (by kernel_rfl) e_77, by kernel_rfl⟩
/-- filespace/path.Valid -/
theorem e_104 (a : PA te [.d .str]) : path_Valid a.1 = evFun Tryz.prog te eqL tnil Tryz.f104 [.d .str] [(.bool, [])] (.s .p (.s .p (.s (.s .p (.lp ⟨[(21, .d (.int .i64))], [], [0, 20], [], [], 10009⟩ ⟨[], [], [], [], [], 10009⟩ true .p)) .p))) a := by kernel_rfl
def c_104 : Con te := conOf te [.d .str] [(.bool, [])] false fun a => path_Valid a.1
theorem ok_104 : Con.OK Tryz.prog te 104 c_104 ∧ bodyB Tryz.prog 104 = true := ⟨conOf_ok eqL_ok tnil_ok Tryz.func104 (by kernel_rfl) e_104, by kernel_rfl⟩
/-- filespace/msg.names -/
theorem e_78 (a : PA te [.d (.sl .str)]) : msg_names a.1 = evFun Tryz.prog te eqL (tb 104 c_104 tnil) Tryz.f78 [.d (.sl .str)] [(.int .i64, [])] (.s .p (.s .p (.s (.s .p (.lp ⟨[(10, .d (.int .i64))], [], [8, 9], [], [], 7⟩ ⟨[], [], [], [], [], 7⟩ true .p)) .p))) a := by kernel_rfl
def c_78 : Con te := conOf te [.d (.sl .str)] [(.int .i64, [])] false fun a => msg_names a.1
theorem ok_78 : Con.OK Tryz.prog te 78 c_78 ∧ bodyB Tryz.prog 78 = true := ⟨conOf_ok eqL_ok (tb_ok ok_104 tnil_ok) Tryz.func78 (by kernel_rfl) e_78, by kernel_rfl⟩
/-- filespace/msg.qids -/
theorem e_79 (a : PA te [.d (.sl (.st 0))]) : msg_qids a.1 = evFun Tryz.prog te eqL (tb 77 c_77 tnil) Tryz.f79 [.d (.sl (.st 0))] [(.int .i64, [])] (.s .p (.s .p (.s (.s .p (.lp ⟨[(11, .d (.int .i64))], [], [9, 10], [], [], 7⟩ ⟨[], [], [], [], [], 7⟩ true .p)) .p))) a := by kernel_rfl
def c_79 : Con te := conOf te [.d (.sl (.st 0))] [(.int .i64, [])] false fun a => msg_qids a.1
theorem ok_79 : Con.OK Tryz.prog te 79 c_79 ∧ bodyB Tryz.prog 79 = true := ⟨conOf_ok eqL_ok (tb_ok ok_77 tnil_ok) Tryz.func79 (by kernel_rfl) e_79, by kernel_rfl⟩
/-- filespace/msg.named -/
theorem e_80 (a : PA te [.d .str]) : msg_named a.1 = evFun Tryz.prog te eqL (tb 104 c_104 tnil) Tryz.f80 [.d .str] [(.int .i64, [])] (.p : Pl) a := by kernel_rfl
def c_80 : Con te := conOf te [.d .str] [(.int .i64, [])] false fun a => msg_named a.1
theorem ok_80 : Con.OK Tryz.prog te 80 c_80 ∧ bodyB Tryz.prog 80 = true := ⟨conOf_ok eqL_ok (tb_ok ok_104 tnil_ok) Tryz.func80 (by kernel_rfl) e_80, by kernel_rfl⟩
/-- filespace/stat.numbers -/
theorem e_105 (a : PA te [.d (.st 1)]) : stat_numbers a.1 = evFun Tryz.prog te eqL tnil Tryz.f105 [.d (.st 1)] [(.sl (.st 5), [some 132])] (.p : Pl) a := by kernel_rfl
def c_105 : Con te := conOf te [.d (.st 1)] [(.sl (.st 5), [some 132])] false fun a => stat_numbers a.1
theorem ok_105 : Con.OK Tryz.prog te 105 c_105 ∧ bodyB Tryz.prog 105 = true := ⟨conOf_ok eqL_ok tnil_ok Tryz.func105 (by kernel_rfl) e_105, by kernel_rfl⟩
/-- filespace/stat.within -/
theorem e_106 (a : PA te [.d (.int .i64), .d (.int .i64)]) : stat_within a.1 a.2.1 = evFun Tryz.prog te eqL tnil Tryz.f106 [.d (.int .i64), .d (.int .i64)] [(.bool, [])] (.p : Pl) a := by kernel_rfl
def c_106 : Con te := conOf te [.d (.int .i64), .d (.int .i64)] [(.bool, [])] false fun a => stat_within a.1 a.2.1
theorem ok_106 : Con.OK Tryz.prog te 106 c_106 ∧ bodyB Tryz.prog 106 = true := ⟨conOf_ok eqL_ok tnil_ok Tryz.func106 (by kernel_rfl) e_106, by kernel_rfl⟩
/-- filespace/stat.Check -/
theorem e_81 (a : PA te [.d (.st 1)]) : stat_Check a.1 = evFun Tryz.prog te eqL (tb 104 c_104 (tb 106 c_106 (tb 105 c_105 tnil))) Tryz.f81 [.d (.st 1)] [(.int .i64, [])] (.s .p (.s (.s .p (.lp ⟨[(8, .d (.int .i64))], [(4, true, .row 132 (.st 5) [])], [1, 6, 7], [0], [], 8⟩ ⟨[], [], [1], [0], [], 8⟩ true .p)) .p)) a := by kernel_rfl
def c_81 : Con te := conOf te [.d (.st 1)] [(.int .i64, [])] false fun a => stat_Check a.1
theorem ok_81 : Con.OK Tryz.prog te 81 c_81 ∧ bodyB Tryz.prog 81 = true := ⟨conOf_ok eqL_ok (tb_ok ok_104 (tb_ok ok_106 (tb_ok ok_105 tnil_ok))) Tryz.func81 (by kernel_rfl) e_81, by kernel_rfl⟩
/-- filespace/msg.fields -/
theorem e_38 (a : PA te [.d (.st 2)]) : msg_fields a.1 = evFun Tryz.prog te eqL (tb 81 c_81 (tb 80 c_80 (tb 79 c_79 (tb 78 c_78 (tb 77 c_77 (tb 76 c_76 (tb 73 c_73 (tb 75 c_75 (tb 74 c_74 tnil))))))))) Tryz.f38 [.d (.st 2)] [(.int .i64, [])] (.s .p (.s (.s .p (.j ⟨[(5, .d .bool)], [], [1, 4], [0], [], 5⟩ false .p (.s (.s (.dr [0, 0, 0, 0, 0, 0, 0, 0, 0, 1, 1, 4] [] false []) .p) (.s .p (.s (.s (.dr [0, 0, 0, 0, 0, 0, 0, 0, 0, 1, 1, 4] [] false []) .p) (.s .p (.s (.s (.dr [0, 0, 0, 0, 0, 0, 0, 0, 0, 0, 0, 0, 1, 1, 4] [] false []) .p) (.j ⟨[(48, .d .bool)], [], [1, 4], [0], [], 9⟩ false .p (.s (.s (.dr [0, 0, 0, 0, 0, 0, 1, 1, 4] [] false []) .p) (.s .p (.s .p (.s .p (.s .p (.s .p (.s (.s (.dr [0, 0, 0, 0, 0, 0, 0, 0, 0, 1, 1, 4] [] false []) .p) (.s .p (.s .p (.s .p (.s (.s (.dr [0, 0, 0, 0, 0, 0, 1, 1, 4] [] false []) .p) (.s .p (.s (.s (.dr [0, 0, 0, 0, 0, 0, 0, 0, 0, 0, 0, 0, 1, 1, 4] [] false []) .p) (.j ⟨[(115, .d .bool)], [], [1, 4], [0], [], 21⟩ false .p (.s (.s (.dr [0, 0, 0, 0, 0, 0, 0, 0, 0, 0, 0, 0, 1, 1, 4] [] false []) .p) (.j ⟨[(134, .d .bool)], [], [1, 4], [0], [], 21⟩ false .p (.s (.s (.dr [0, 0, 0, 0, 0, 0, 1, 1, 4] [] false []) .p) (.j ⟨[(145, .d .bool)], [], [1, 4], [0], [], 21⟩ false .p (.s (.s (.dr [0, 0, 0, 0, 0, 0, 0, 0, 0, 0, 0, 0, 1, 1, 4] [] false []) .p) .p))))))))))))))))))))))))))) .p)) a := by kernel_rfl
def c_38 : Con te := conOf te [.d (.st 2)] [(.int .i64, [])] false fun a => msg_fields a.1
theorem ok_38 : Con.OK Tryz.prog te 38 c_38 ∧ bodyB Tryz.prog 38 = true := ⟨conOf_ok eqL_ok (tb_ok ok_81 (tb_ok ok_80 (tb_ok ok_79 (tb_ok ok_78 (tb_ok ok_77 (tb_ok ok_76 (tb_ok ok_73 (tb_ok ok_75 (tb_ok ok_74 tnil_ok))))))))) Tryz.func38 (by kernel_rfl) e_38, by kernel_rfl⟩
/-- filespace/msg.Check -/
theorem e_18 (a : PA te [.d (.st 2)]) : msg_Check a.1 = evFun Tryz.prog te eqL (tb 38 c_38 (tb 36 c_36 (tb 37 c_37 (tb 35 c_35 (tb 31 c_31 tnil))))) Tryz.f18 [.d (.st 2)] [(.int .i64, [])] (.s .p (.s (.s .p (.s .p (.s .p (.s .p (.s (.dr [0, 1, 0, 1, 4, 4] [2] false []) .p))))) .p)) a := by kernel_rfl
def c_18 : Con te := conOf te [.d (.st 2)] [(.int .i64, [])] false fun a => msg_Check a.1
theorem ok_18 : Con.OK Tryz.prog te 18 c_18 ∧ bodyB Tryz.prog 18 = true := ⟨conOf_ok eqL_ok (tb_ok ok_38 (tb_ok ok_36 (tb_ok ok_37 (tb_ok ok_35 (tb_ok ok_31 tnil_ok))))) Tryz.func18 (by kernel_rfl) e_18, by kernel_rfl⟩
/-- filespace/octet.Put -/
theorem e_22 (a : PA te [.d (.int .i64), .d (.int .i64)]) : octet_Put a.1 a.2.1 = evFun Tryz.prog te eqL tnil Tryz.f22 [.d (.int .i64), .d (.int .i64)] [(.str, []), (.int .i64, [])] (.s .p (.s .p (.s .p (.s .p (.s (.s .p (.lp ⟨[(31, .d (.int .i64))], [(13009, true, .row 5 (.int .u8) [])], [0, 6, 30], [], [], 13015⟩ ⟨[], [(13009, true, .row 5 (.int .u8) [])], [6], [], [], 13015⟩ false .p)) .p))))) a := by kernel_rfl
def c_22 : Con te := conOf te [.d (.int .i64), .d (.int .i64)] [(.str, []), (.int .i64, [])] false fun a => octet_Put a.1 a.2.1
theorem ok_22 : Con.OK Tryz.prog te 22 c_22 ∧ bodyB Tryz.prog 22 = true := ⟨conOf_ok eqL_ok tnil_ok Tryz.func22 (by kernel_rfl) e_22, by kernel_rfl⟩
/-- (*filespace/wire.writer).add -/
theorem e_39 (a : PA te [.b 47 (.st 6), .d .str, .d (.int .i64)]) : wire_writer_add a.1 a.2.1 a.2.2.1 = evFun Tryz.prog te eqL tnil Tryz.f39 [.b 47 (.st 6), .d .str, .d (.int .i64)] [] (.p : Pl) a := by kernel_rfl
def c_39 : Con te := conOf te [.b 47 (.st 6), .d .str, .d (.int .i64)] [] false fun a => wire_writer_add a.1 a.2.1 a.2.2.1
theorem ok_39 : Con.OK Tryz.prog te 39 c_39 ∧ bodyB Tryz.prog 39 = true := ⟨conOf_ok eqL_ok tnil_ok Tryz.func39 (by kernel_rfl) e_39, by kernel_rfl⟩
/-- (*filespace/wire.writer).number -/
theorem e_19 (a : PA te [.b 47 (.st 6), .d (.int .i64), .d (.int .i64)]) : wire_writer_number a.1 a.2.1 a.2.2.1 = evFun Tryz.prog te eqL (tb 39 c_39 (tb 22 c_22 tnil)) Tryz.f19 [.b 47 (.st 6), .d (.int .i64), .d (.int .i64)] [] (.p : Pl) a := by kernel_rfl
def c_19 : Con te := conOf te [.b 47 (.st 6), .d (.int .i64), .d (.int .i64)] [] false fun a => wire_writer_number a.1 a.2.1 a.2.2.1
theorem ok_19 : Con.OK Tryz.prog te 19 c_19 ∧ bodyB Tryz.prog 19 = true := ⟨conOf_ok eqL_ok (tb_ok ok_39 (tb_ok ok_22 tnil_ok)) Tryz.func19 (by kernel_rfl) e_19, by kernel_rfl⟩
/-- filespace/wire.layout -/
theorem e_20 (a : PA te [.d (.int .i64)]) : wire_layout a.1 = evFun Tryz.prog te eqL tnil Tryz.f20 [.d (.int .i64)] [(.str, [])] (.s .p (.s (.s .p (.s .p (.s .p (.s .p (.s .p (.s .p (.s .p (.j ⟨[(10, .d .bool)], [], [3], [], [], 8⟩ false .p (.s .p (.s .p (.s .p (.s .p (.s .p (.s .p (.s .p (.s .p (.s .p (.s .p (.s .p (.s .p (.s .p (.j ⟨[(25, .d .bool)], [], [3], [], [], 20⟩ false .p (.s .p (.s .p (.s .p (.s .p (.s .p (.s .p (.s .p (.s .p (.s .p (.s .p (.s .p (.j ⟨[(38, .d .bool)], [], [3], [], [], 30⟩ false .p .p)))))))))))))))))))))))))))))))))) .p)) a := by kernel_rfl
def c_20 : Con te := conOf te [.d (.int .i64)] [(.str, [])] false fun a => wire_layout a.1
theorem ok_20 : Con.OK Tryz.prog te 20 c_20 ∧ bodyB Tryz.prog 20 = true := ⟨conOf_ok eqL_ok tnil_ok Tryz.func20 (by kernel_rfl) e_20, by kernel_rfl⟩
/-- filespace/octet.PutText -/
theorem e_82 (a : PA te [.d .str]) : octet_PutText a.1 = evFun Tryz.prog te eqL (tb 22 c_22 tnil) Tryz.f82 [.d .str] [(.str, []), (.int .i64, [])] (.p : Pl) a := by kernel_rfl
def c_82 : Con te := conOf te [.d .str] [(.str, []), (.int .i64, [])] false fun a => octet_PutText a.1
theorem ok_82 : Con.OK Tryz.prog te 82 c_82 ∧ bodyB Tryz.prog 82 = true := ⟨conOf_ok eqL_ok (tb_ok ok_22 tnil_ok) Tryz.func82 (by kernel_rfl) e_82, by kernel_rfl⟩
/-- (*filespace/wire.writer).text -/
theorem e_40 (a : PA te [.b 47 (.st 6), .d .str]) : wire_writer_text a.1 a.2.1 = evFun Tryz.prog te eqL (tb 39 c_39 (tb 82 c_82 tnil)) Tryz.f40 [.b 47 (.st 6), .d .str] [] (.p : Pl) a := by kernel_rfl
def c_40 : Con te := conOf te [.b 47 (.st 6), .d .str] [] false fun a => wire_writer_text a.1 a.2.1
theorem ok_40 : Con.OK Tryz.prog te 40 c_40 ∧ bodyB Tryz.prog 40 = true := ⟨conOf_ok eqL_ok (tb_ok ok_39 (tb_ok ok_82 tnil_ok)) Tryz.func40 (by kernel_rfl) e_40, by kernel_rfl⟩
/-- (*filespace/wire.writer).qid -/
theorem e_41 (a : PA te [.b 47 (.st 6), .d (.st 0)]) : wire_writer_qid a.1 a.2.1 = evFun Tryz.prog te eqL (tb 19 c_19 tnil) Tryz.f41 [.b 47 (.st 6), .d (.st 0)] [] (.p : Pl) a := by kernel_rfl
def c_41 : Con te := conOf te [.b 47 (.st 6), .d (.st 0)] [] false fun a => wire_writer_qid a.1 a.2.1
theorem ok_41 : Con.OK Tryz.prog te 41 c_41 ∧ bodyB Tryz.prog 41 = true := ⟨conOf_ok eqL_ok (tb_ok ok_19 tnil_ok) Tryz.func41 (by kernel_rfl) e_41, by kernel_rfl⟩
/-- filespace/fault.low -/
theorem e_83 (a : PA te [.d (.int .i64)]) : fault_low a.1 = evFun Tryz.prog te eqL tnil Tryz.f83 [.d (.int .i64)] [(.str, [])] (.p : Pl) a := by kernel_rfl
def c_83 : Con te := conOf te [.d (.int .i64)] [(.str, [])] false fun a => fault_low a.1
theorem ok_83 : Con.OK Tryz.prog te 83 c_83 ∧ bodyB Tryz.prog 83 = true := ⟨conOf_ok eqL_ok tnil_ok Tryz.func83 (by kernel_rfl) e_83, by kernel_rfl⟩
/-- filespace/fault.high -/
theorem e_84 (a : PA te [.d (.int .i64)]) : fault_high a.1 = evFun Tryz.prog te eqL tnil Tryz.f84 [.d (.int .i64)] [(.str, [])] (.p : Pl) a := by kernel_rfl
def c_84 : Con te := conOf te [.d (.int .i64)] [(.str, [])] false fun a => fault_high a.1
theorem ok_84 : Con.OK Tryz.prog te 84 c_84 ∧ bodyB Tryz.prog 84 = true := ⟨conOf_ok eqL_ok tnil_ok Tryz.func84 (by kernel_rfl) e_84, by kernel_rfl⟩
/-- filespace/fault.Text -/
theorem e_42 (a : PA te [.d (.int .i64)]) : fault_Text a.1 = evFun Tryz.prog te eqL (tb 84 c_84 (tb 83 c_83 tnil)) Tryz.f42 [.d (.int .i64)] [(.str, [])] (.p : Pl) a := by kernel_rfl
def c_42 : Con te := conOf te [.d (.int .i64)] [(.str, [])] false fun a => fault_Text a.1
theorem ok_42 : Con.OK Tryz.prog te 42 c_42 ∧ bodyB Tryz.prog 42 = true := ⟨conOf_ok eqL_ok (tb_ok ok_84 (tb_ok ok_83 tnil_ok)) Tryz.func42 (by kernel_rfl) e_42, by kernel_rfl⟩
/-- (*filespace/wire.writer).names -/
theorem e_43 (a : PA te [.b 47 (.st 6), .d (.sl .str)]) : wire_writer_names a.1 a.2.1 = evFun Tryz.prog te eqL (tb 40 c_40 (tb 19 c_19 tnil)) Tryz.f43 [.b 47 (.st 6), .d (.sl .str)] [] (.s .p (.s .p (.lp ⟨[(12, .d (.int .i64))], [(0, true, .box 47 (.st 6))], [0, 10, 11], [], [], 10⟩ ⟨[], [(0, true, .box 47 (.st 6))], [], [], [], 10⟩ false .p))) a := by kernel_rfl
def c_43 : Con te := conOf te [.b 47 (.st 6), .d (.sl .str)] [] false fun a => wire_writer_names a.1 a.2.1
theorem ok_43 : Con.OK Tryz.prog te 43 c_43 ∧ bodyB Tryz.prog 43 = true := ⟨conOf_ok eqL_ok (tb_ok ok_40 (tb_ok ok_19 tnil_ok)) Tryz.func43 (by kernel_rfl) e_43, by kernel_rfl⟩
/-- (*filespace/wire.writer).qids -/
theorem e_44 (a : PA te [.b 47 (.st 6), .d (.sl (.st 0))]) : wire_writer_qids a.1 a.2.1 = evFun Tryz.prog te eqL (tb 41 c_41 (tb 19 c_19 tnil)) Tryz.f44 [.b 47 (.st 6), .d (.sl (.st 0))] [] (.s .p (.s .p (.lp ⟨[(12, .d (.int .i64))], [(0, true, .box 47 (.st 6))], [0, 10, 11], [], [], 10⟩ ⟨[], [(0, true, .box 47 (.st 6))], [], [], [], 10⟩ false .p))) a := by kernel_rfl
def c_44 : Con te := conOf te [.b 47 (.st 6), .d (.sl (.st 0))] [] false fun a => wire_writer_qids a.1 a.2.1
theorem ok_44 : Con.OK Tryz.prog te 44 c_44 ∧ bodyB Tryz.prog 44 = true := ⟨conOf_ok eqL_ok (tb_ok ok_41 (tb_ok ok_19 tnil_ok)) Tryz.func44 (by kernel_rfl) e_44, by kernel_rfl⟩
/-- (*filespace/wire.writer).data -/
theorem e_45 (a : PA te [.b 47 (.st 6), .d .str, .d (.int .i64)]) : wire_writer_data a.1 a.2.1 a.2.2.1 = evFun Tryz.prog te eqL (tb 39 c_39 (tb 19 c_19 tnil)) Tryz.f45 [.b 47 (.st 6), .d .str, .d (.int .i64)] [] (.p : Pl) a := by kernel_rfl
def c_45 : Con te := conOf te [.b 47 (.st 6), .d .str, .d (.int .i64)] [] false fun a => wire_writer_data a.1 a.2.1 a.2.2.1
theorem ok_45 : Con.OK Tryz.prog te 45 c_45 ∧ bodyB Tryz.prog 45 = true := ⟨conOf_ok eqL_ok (tb_ok ok_39 (tb_ok ok_19 tnil_ok)) Tryz.func45 (by kernel_rfl) e_45, by kernel_rfl⟩
/-- filespace/stat.put -/
theorem e_107 (a : PA te [.d (.st 5)]) : stat_put a.1 = evFun Tryz.prog te eqL (tb 22 c_22 (tb 115 con_strings_Repeat tnil)) Tryz.f107 [.d (.st 5)] [(.str, [])] (.p : Pl) a := by kernel_rfl
def c_107 : Con te := conOf te [.d (.st 5)] [(.str, [])] false fun a => stat_put a.1
theorem ok_107 : Con.OK Tryz.prog te 107 c_107 ∧ bodyB Tryz.prog 107 = true := ⟨conOf_ok eqL_ok (tb_ok ok_22 (tb_ok ok_con_strings_Repeat tnil_ok)) Tryz.func107 (by kernel_rfl) e_107, by kernel_rfl⟩
/-- filespace/stat.Put -/
theorem e_85 (a : PA te [.d (.st 1)]) : stat_Put a.1 = evFun Tryz.prog te eqL (tb 22 c_22 (tb 82 c_82 (tb 107 c_107 (tb 105 c_105 (tb 81 c_81 tnil))))) Tryz.f85 [.d (.st 1)] [(.str, []), (.int .i64, [])] (.s .p (.s .p (.s .p (.s (.s .p (.lp ⟨[(5, .d .str), (22, .d (.int .i64))], [(11, true, .row 132 (.st 5) [])], [1, 20, 21], [0], [], 15⟩ ⟨[(5, .d .str)], [], [1], [0], [], 15⟩ false .p)) (.s (.s .p (.lp ⟨[(5, .d .str), (41, .d (.int .i64))], [(23, true, .row 9 .str [])], [39, 40], [], [], 27⟩ ⟨[(5, .d .str)], [], [], [], [], 27⟩ true .p)) .p))))) a := by kernel_rfl
def c_85 : Con te := conOf te [.d (.st 1)] [(.str, []), (.int .i64, [])] false fun a => stat_Put a.1
theorem ok_85 : Con.OK Tryz.prog te 85 c_85 ∧ bodyB Tryz.prog 85 = true := ⟨conOf_ok eqL_ok (tb_ok ok_22 (tb_ok ok_82 (tb_ok ok_107 (tb_ok ok_105 (tb_ok ok_81 tnil_ok))))) Tryz.func85 (by kernel_rfl) e_85, by kernel_rfl⟩
/-- (*filespace/wire.writer).stat -/
theorem e_46 (a : PA te [.b 47 (.st 6), .d (.st 1)]) : wire_writer_stat a.1 a.2.1 = evFun Tryz.prog te eqL (tb 45 c_45 (tb 39 c_39 (tb 85 c_85 tnil))) Tryz.f46 [.b 47 (.st 6), .d (.st 1)] [] (.p : Pl) a := by kernel_rfl
def c_46 : Con te := conOf te [.b 47 (.st 6), .d (.st 1)] [] false fun a => wire_writer_stat a.1 a.2.1
theorem ok_46 : Con.OK Tryz.prog te 46 c_46 ∧ bodyB Tryz.prog 46 = true := ⟨conOf_ok eqL_ok (tb_ok ok_45 (tb_ok ok_39 (tb_ok ok_85 tnil_ok))) Tryz.func46 (by kernel_rfl) e_46, by kernel_rfl⟩
/-- (*filespace/wire.writer).field -/
theorem e_21 (a : PA te [.b 47 (.st 6), .d (.st 2), .d (.int .u8)]) : wire_writer_field a.1 a.2.1 a.2.2.1 = evFun Tryz.prog te eqL (tb 46 c_46 (tb 45 c_45 (tb 44 c_44 (tb 43 c_43 (tb 42 c_42 (tb 41 c_41 (tb 40 c_40 (tb 19 c_19 tnil)))))))) Tryz.f21 [.b 47 (.st 6), .d (.st 2), .d (.int .u8)] [] (.p : Pl) a := by kernel_rfl
def c_21 : Con te := conOf te [.b 47 (.st 6), .d (.st 2), .d (.int .u8)] [] false fun a => wire_writer_field a.1 a.2.1 a.2.2.1
theorem ok_21 : Con.OK Tryz.prog te 21 c_21 ∧ bodyB Tryz.prog 21 = true := ⟨conOf_ok eqL_ok (tb_ok ok_46 (tb_ok ok_45 (tb_ok ok_44 (tb_ok ok_43 (tb_ok ok_42 (tb_ok ok_41 (tb_ok ok_40 (tb_ok ok_19 tnil_ok)))))))) Tryz.func21 (by kernel_rfl) e_21, by kernel_rfl⟩
/-- filespace/wire.Put -/
theorem e_8 (a : PA te [.d (.st 2)]) : wire_Put a.1 = evFun Tryz.prog te eqL (tb 22 c_22 (tb 21 c_21 (tb 20 c_20 (tb 19 c_19 (tb 18 c_18 tnil))))) Tryz.f8 [.d (.st 2)] [(.str, []), (.int .i64, [])] (.s .p (.s .p (.s .p (.s .p (.s .p (.s .p (.s (.s .p (.lp ⟨[(30, .d (.int .i64))], [(10, true, .box 47 (.st 6))], [1, 5, 6, 29], [0], [], 32⟩ ⟨[], [(10, true, .box 47 (.st 6))], [5], [], [], 32⟩ false (.s .p (.s .p (.s (.s .p (.dr [0, 0, 0, 0, 0, 2] [] false [])) .p))))) (.s (.s .p (.s (.s (.dr [0, 0, 0, 0, 0, 0] [] false []) .p) .p)) .p)))))))) a := by kernel_rfl
def c_8 : Con te := conOf te [.d (.st 2)] [(.str, []), (.int .i64, [])] false fun a => wire_Put a.1
theorem ok_8 : Con.OK Tryz.prog te 8 c_8 ∧ bodyB Tryz.prog 8 = true := ⟨conOf_ok eqL_ok (tb_ok ok_22 (tb_ok ok_21 (tb_ok ok_20 (tb_ok ok_19 (tb_ok ok_18 tnil_ok))))) Tryz.func8 (by kernel_rfl) e_8, by kernel_rfl⟩
/-- filespace/octet.Get -/
theorem e_28 (a : PA te [.d .str, .d (.int .i64), .d (.int .i64)]) : octet_Get a.1 a.2.1 a.2.2.1 = evFun Tryz.prog te eqL tnil Tryz.f28 [.d .str, .d (.int .i64), .d (.int .i64)] [(.int .i64, []), (.int .i64, []), (.int .i64, [])] (.s .p (.s .p (.s .p (.s .p (.s (.s .p (.lp ⟨[(9, .d (.int .u64)), (10, .d (.int .i64))], [], [0, 1, 2], [], [], 11018⟩ ⟨[(9, .d (.int .u64))], [], [1, 2], [], [], 11018⟩ false .p)) .p))))) a := by kernel_rfl
def c_28 : Con te := conOf te [.d .str, .d (.int .i64), .d (.int .i64)] [(.int .i64, []), (.int .i64, []), (.int .i64, [])] false fun a => octet_Get a.1 a.2.1 a.2.2.1
theorem ok_28 : Con.OK Tryz.prog te 28 c_28 ∧ bodyB Tryz.prog 28 = true := ⟨conOf_ok eqL_ok tnil_ok Tryz.func28 (by kernel_rfl) e_28, by kernel_rfl⟩
/-- (*filespace/wire.reader).number -/
theorem e_29 (a : PA te [.b 63 (.st 7), .d (.int .i64)]) : wire_reader_number a.1 a.2.1 = evFun Tryz.prog te eqL (tb 28 c_28 tnil) Tryz.f29 [.b 63 (.st 7), .d (.int .i64)] [(.int .i64, [])] (.s .p (.s .p (.s (.dr [0, 0, 0, 0, 0, 0, 0, 0, 0, 0, 0, 0, 0, 0, 0, 0, 0] [] false []) .p))) a := by kernel_rfl
def c_29 : Con te := conOf te [.b 63 (.st 7), .d (.int .i64)] [(.int .i64, [])] false fun a => wire_reader_number a.1 a.2.1
theorem ok_29 : Con.OK Tryz.prog te 29 c_29 ∧ bodyB Tryz.prog 29 = true := ⟨conOf_ok eqL_ok (tb_ok ok_28 tnil_ok) Tryz.func29 (by kernel_rfl) e_29, by kernel_rfl⟩
/-- filespace/octet.GetText -/
theorem e_97 (a : PA te [.d .str, .d (.int .i64)]) : octet_GetText a.1 a.2.1 = evFun Tryz.prog te eqL (tb 28 c_28 tnil) Tryz.f97 [.d .str, .d (.int .i64)] [(.str, []), (.int .i64, []), (.int .i64, [])] (.p : Pl) a := by kernel_rfl
def c_97 : Con te := conOf te [.d .str, .d (.int .i64)] [(.str, []), (.int .i64, []), (.int .i64, [])] false fun a => octet_GetText a.1 a.2.1
theorem ok_97 : Con.OK Tryz.prog te 97 c_97 ∧ bodyB Tryz.prog 97 = true := ⟨conOf_ok eqL_ok (tb_ok ok_28 tnil_ok) Tryz.func97 (by kernel_rfl) e_97, by kernel_rfl⟩
/-- (*filespace/wire.reader).text -/
theorem e_58 (a : PA te [.b 63 (.st 7)]) : wire_reader_text a.1 = evFun Tryz.prog te eqL (tb 97 c_97 tnil) Tryz.f58 [.b 63 (.st 7)] [(.str, [])] (.s .p (.s .p (.s (.dr [0, 0, 0, 0, 0, 0, 0, 0, 0, 0, 0, 0, 0, 0, 0, 0] [] false []) .p))) a := by kernel_rfl
def c_58 : Con te := conOf te [.b 63 (.st 7)] [(.str, [])] false fun a => wire_reader_text a.1
theorem ok_58 : Con.OK Tryz.prog te 58 c_58 ∧ bodyB Tryz.prog 58 = true := ⟨conOf_ok eqL_ok (tb_ok ok_97 tnil_ok) Tryz.func58 (by kernel_rfl) e_58, by kernel_rfl⟩
/-- (*filespace/wire.reader).qid -/
theorem e_59 (a : PA te [.b 63 (.st 7)]) : wire_reader_qid a.1 = evFun Tryz.prog te eqL (tb 29 c_29 tnil) Tryz.f59 [.b 63 (.st 7)] [(.st 0, [])] (.p : Pl) a := by kernel_rfl
def c_59 : Con te := conOf te [.b 63 (.st 7)] [(.st 0, [])] false fun a => wire_reader_qid a.1
theorem ok_59 : Con.OK Tryz.prog te 59 c_59 ∧ bodyB Tryz.prog 59 = true := ⟨conOf_ok eqL_ok (tb_ok ok_29 tnil_ok) Tryz.func59 (by kernel_rfl) e_59, by kernel_rfl⟩
/-- filespace/fault.Find -/
theorem e_98 (a : PA te [.d .str]) : fault_Find a.1 = evFun Tryz.prog te eqL (tb 42 c_42 tnil) Tryz.f98 [.d .str] [(.int .i64, []), (.bool, [])] (.s .p (.s .p (.s (.s .p (.lp ⟨[(4, .d (.int .i64))], [], [0], [], [], 5⟩ ⟨[], [], [], [], [], 5⟩ true .p)) .p))) a := by kernel_rfl
def c_98 : Con te := conOf te [.d .str] [(.int .i64, []), (.bool, [])] false fun a => fault_Find a.1
theorem ok_98 : Con.OK Tryz.prog te 98 c_98 ∧ bodyB Tryz.prog 98 = true := ⟨conOf_ok eqL_ok (tb_ok ok_42 tnil_ok) Tryz.func98 (by kernel_rfl) e_98, by kernel_rfl⟩
/-- (*filespace/wire.reader).fault -/
theorem e_60 (a : PA te [.b 63 (.st 7)]) : wire_reader_fault a.1 = evFun Tryz.prog te eqL (tb 98 c_98 (tb 58 c_58 tnil)) Tryz.f60 [.b 63 (.st 7)] [(.int .i64, [])] (.p : Pl) a := by kernel_rfl
def c_60 : Con te := conOf te [.b 63 (.st 7)] [(.int .i64, [])] false fun a => wire_reader_fault a.1
theorem ok_60 : Con.OK Tryz.prog te 60 c_60 ∧ bodyB Tryz.prog 60 = true := ⟨conOf_ok eqL_ok (tb_ok ok_98 (tb_ok ok_58 tnil_ok)) Tryz.func60 (by kernel_rfl) e_60, by kernel_rfl⟩
/-- (*filespace/wire.reader).names -/
theorem e_61 (a : PA te [.b 63 (.st 7)]) : wire_reader_names a.1 = evFun Tryz.prog te eqL (tb 58 c_58 (tb 29 c_29 tnil)) Tryz.f61 [.b 63 (.st 7)] [(.sl .str, [some 9])] (.s .p (.s .p (.s (.s .p (.lp ⟨[(3, .one (.own 8)), (4, .d (.int .i64))], [(0, true, .box 63 (.st 7)), (8, false, .row 9 .str [])], [0], [], [], 9⟩ ⟨[(3, .one (.own 8))], [(8, false, .row 9 .str []), (0, true, .box 63 (.st 7))], [], [], [], 9⟩ false .p)) .p))) a := by kernel_rfl
def c_61 : Con te := conOf te [.b 63 (.st 7)] [(.sl .str, [some 9])] false fun a => wire_reader_names a.1
theorem ok_61 : Con.OK Tryz.prog te 61 c_61 ∧ bodyB Tryz.prog 61 = true := ⟨conOf_ok eqL_ok (tb_ok ok_58 (tb_ok ok_29 tnil_ok)) Tryz.func61 (by kernel_rfl) e_61, by kernel_rfl⟩
/-- (*filespace/wire.reader).qids -/
theorem e_62 (a : PA te [.b 63 (.st 7)]) : wire_reader_qids a.1 = evFun Tryz.prog te eqL (tb 59 c_59 (tb 29 c_29 tnil)) Tryz.f62 [.b 63 (.st 7)] [(.sl (.st 0), [some 25])] (.s .p (.s .p (.s (.s .p (.lp ⟨[(3, .one (.own 8)), (4, .d (.int .i64))], [(0, true, .box 63 (.st 7)), (8, false, .row 25 (.st 0) [])], [0], [], [], 9⟩ ⟨[(3, .one (.own 8))], [(8, false, .row 25 (.st 0) []), (0, true, .box 63 (.st 7))], [], [], [], 9⟩ false .p)) .p))) a := by kernel_rfl
def c_62 : Con te := conOf te [.b 63 (.st 7)] [(.sl (.st 0), [some 25])] false fun a => wire_reader_qids a.1
theorem ok_62 : Con.OK Tryz.prog te 62 c_62 ∧ bodyB Tryz.prog 62 = true := ⟨conOf_ok eqL_ok (tb_ok ok_59 (tb_ok ok_29 tnil_ok)) Tryz.func62 (by kernel_rfl) e_62, by kernel_rfl⟩
/-- (*filespace/wire.reader).data -/
theorem e_63 (a : PA te [.b 63 (.st 7), .d (.int .i64)]) : wire_reader_data a.1 a.2.1 = evFun Tryz.prog te eqL (tb 29 c_29 tnil) Tryz.f63 [.b 63 (.st 7), .d (.int .i64)] [(.str, [])] (.s .p (.s .p (.s (.s (.dr [0, 0, 0, 0, 0, 0, 0, 0, 0, 0, 0, 0, 0, 0, 0, 0, 0, 0, 0] [] false []) .p) (.s .p (.s (.dr [0, 0, 0, 0, 0, 0, 0, 0, 0, 0, 0, 0, 0, 0, 0, 0] [] false []) .p))))) a := by kernel_rfl
def c_63 : Con te := conOf te [.b 63 (.st 7), .d (.int .i64)] [(.str, [])] false fun a => wire_reader_data a.1 a.2.1
theorem ok_63 : Con.OK Tryz.prog te 63 c_63 ∧ bodyB Tryz.prog 63 = true := ⟨conOf_ok eqL_ok (tb_ok ok_29 tnil_ok) Tryz.func63 (by kernel_rfl) e_63, by kernel_rfl⟩
/-- (*filespace/stat.reader).number -/
theorem e_117 (a : PA te [.b 139 (.st 8), .d (.int .i64)]) : stat_reader_number a.1 a.2.1 = evFun Tryz.prog te eqL (tb 28 c_28 (tb 127 con_strings_Count tnil)) Tryz.f117 [.b 139 (.st 8), .d (.int .i64)] [(.int .i64, [])] (.s .p (.s (.s (.dr [0, 0, 0, 0, 0, 0, 0, 0, 0, 0, 0, 0, 0, 0, 0, 0, 0, 0, 0] [] false []) .p) (.s (.dr [0, 0, 0, 0, 0, 0, 0, 0, 0, 0, 0, 0, 0, 0, 0, 0] [] false []) .p))) a := by kernel_rfl
def c_117 : Con te := conOf te [.b 139 (.st 8), .d (.int .i64)] [(.int .i64, [])] false fun a => stat_reader_number a.1 a.2.1
theorem ok_117 : Con.OK Tryz.prog te 117 c_117 ∧ bodyB Tryz.prog 117 = true := ⟨conOf_ok eqL_ok (tb_ok ok_28 (tb_ok ok_con_strings_Count tnil_ok)) Tryz.func117 (by kernel_rfl) e_117, by kernel_rfl⟩
/-- (*filespace/stat.reader).text -/
theorem e_118 (a : PA te [.b 139 (.st 8)]) : stat_reader_text a.1 = evFun Tryz.prog te eqL (tb 97 c_97 tnil) Tryz.f118 [.b 139 (.st 8)] [(.str, [])] (.s .p (.s .p (.s (.dr [0, 0, 0, 0, 0, 0, 0, 0, 0, 0, 0, 0, 0, 0, 0, 0] [] false []) .p))) a := by kernel_rfl
def c_118 : Con te := conOf te [.b 139 (.st 8)] [(.str, [])] false fun a => stat_reader_text a.1
theorem ok_118 : Con.OK Tryz.prog te 118 c_118 ∧ bodyB Tryz.prog 118 = true := ⟨conOf_ok eqL_ok (tb_ok ok_97 tnil_ok) Tryz.func118 (by kernel_rfl) e_118, by kernel_rfl⟩
/-- (*filespace/stat.reader).read -/
theorem e_112 (a : PA te [.b 139 (.st 8)]) : stat_reader_read a.1 = evFun Tryz.prog te eqL (tb 118 c_118 (tb 117 c_117 tnil)) Tryz.f112 [.b 139 (.st 8)] [(.st 1, [])] (.p : Pl) a := by kernel_rfl
def c_112 : Con te := conOf te [.b 139 (.st 8)] [(.st 1, [])] false fun a => stat_reader_read a.1
theorem ok_112 : Con.OK Tryz.prog te 112 c_112 ∧ bodyB Tryz.prog 112 = true := ⟨conOf_ok eqL_ok (tb_ok ok_118 (tb_ok ok_117 tnil_ok)) Tryz.func112 (by kernel_rfl) e_112, by kernel_rfl⟩
/-- filespace/stat.Get -/
theorem e_99 (a : PA te [.d .str, .d (.int .i64)]) : stat_Get a.1 a.2.1 = evFun Tryz.prog te eqL (tb 81 c_81 (tb 112 c_112 (tb 28 c_28 tnil))) Tryz.f99 [.d .str, .d (.int .i64)] [(.st 1, []), (.int .i64, []), (.int .i64, [])] (.p : Pl) a := by kernel_rfl
def c_99 : Con te := conOf te [.d .str, .d (.int .i64)] [(.st 1, []), (.int .i64, []), (.int .i64, [])] false fun a => stat_Get a.1 a.2.1
theorem ok_99 : Con.OK Tryz.prog te 99 c_99 ∧ bodyB Tryz.prog 99 = true := ⟨conOf_ok eqL_ok (tb_ok ok_81 (tb_ok ok_112 (tb_ok ok_28 tnil_ok))) Tryz.func99 (by kernel_rfl) e_99, by kernel_rfl⟩
/-- (*filespace/wire.reader).stat -/
theorem e_64 (a : PA te [.b 63 (.st 7)]) : wire_reader_stat a.1 = evFun Tryz.prog te eqL (tb 99 c_99 (tb 63 c_63 tnil)) Tryz.f64 [.b 63 (.st 7)] [(.st 1, [])] (.p : Pl) a := by kernel_rfl
def c_64 : Con te := conOf te [.b 63 (.st 7)] [(.st 1, [])] false fun a => wire_reader_stat a.1
theorem ok_64 : Con.OK Tryz.prog te 64 c_64 ∧ bodyB Tryz.prog 64 = true := ⟨conOf_ok eqL_ok (tb_ok ok_99 (tb_ok ok_63 tnil_ok)) Tryz.func64 (by kernel_rfl) e_64, by kernel_rfl⟩
/-- (*filespace/wire.reader).field -/
theorem e_30 (a : PA te [.b 63 (.st 7), .b 30 (.st 2), .d (.int .u8)]) : wire_reader_field a.1 a.2.1 a.2.2.1 = evFun Tryz.prog te eqL (tb 64 c_64 (tb 63 c_63 (tb 62 c_62 (tb 61 c_61 (tb 60 c_60 (tb 59 c_59 (tb 58 c_58 (tb 29 c_29 tnil)))))))) Tryz.f30 [.b 63 (.st 7), .b 30 (.st 2), .d (.int .u8)] [] (.p : Pl) a := by kernel_rfl
def c_30 : Con te := conOf te [.b 63 (.st 7), .b 30 (.st 2), .d (.int .u8)] [] true fun a => wire_reader_field a.1 a.2.1 a.2.2.1
theorem ok_30 : Con.OK Tryz.prog te 30 c_30 ∧ bodyB Tryz.prog 30 = true := ⟨conOf_ok eqL_ok (tb_ok ok_64 (tb_ok ok_63 (tb_ok ok_62 (tb_ok ok_61 (tb_ok ok_60 (tb_ok ok_59 (tb_ok ok_58 (tb_ok ok_29 tnil_ok)))))))) Tryz.func30 (by kernel_rfl) e_30, by kernel_rfl⟩
/-- filespace/wire.Get -/
theorem e_12 (a : PA te [.d .str, .d (.int .i64)]) : wire_Get a.1 a.2.1 = evFun Tryz.prog te eqL (tb 18 c_18 (tb 31 c_31 (tb 30 c_30 (tb 20 c_20 (tb 29 c_29 (tb 28 c_28 tnil)))))) Tryz.f12 [.d .str, .d (.int .i64)] [(.st 2, []), (.int .i64, []), (.int .i64, [])] (.s .p (.s .p (.s .p (.s .p (.s .p (.s .p (.s (.s .p (.lp ⟨[(61, .d (.int .i64))], [(37, true, .box 63 (.st 7)), (49, true, .box 30 (.st 2))], [1, 4, 7, 10, 11, 12, 60], [0], [], 60⟩ ⟨[], [(37, true, .box 63 (.st 7)), (49, true, .box 30 (.st 2))], [1, 4, 7, 10, 11], [0], [], 60⟩ false .p)) .p))))))) a := by kernel_rfl
def c_12 : Con te := conOf te [.d .str, .d (.int .i64)] [(.st 2, []), (.int .i64, []), (.int .i64, [])] true fun a => wire_Get a.1 a.2.1
theorem ok_12 : Con.OK Tryz.prog te 12 c_12 ∧ bodyB Tryz.prog 12 = true := ⟨conOf_ok eqL_ok (tb_ok ok_18 (tb_ok ok_31 (tb_ok ok_30 (tb_ok ok_20 (tb_ok ok_29 (tb_ok ok_28 tnil_ok)))))) Tryz.func12 (by kernel_rfl) e_12, by kernel_rfl⟩
/-- filespace/wire.Split -/
theorem e_15 (a : PA te [.d .str, .d (.int .i64)]) : wire_Split a.1 a.2.1 = evFun Tryz.prog te eqL (tb 12 c_12 (tb 28 c_28 tnil)) Tryz.f15 [.d .str, .d (.int .i64)] [(.sl (.st 2), []), (.str, []), (.int .i64, [])] (.s .p (.s .p (.j ⟨[(7, .d (.int .i64))], [], [0], [], [], 5⟩ false .p (.s .p (.s (.lp ⟨[(0, .d .str), (8, .one (.own 6))], [(6, false, .row 30 (.st 2) [])], [7], [], [], 7⟩ ⟨[(0, .d .str), (8, .one (.own 6))], [(6, false, .row 30 (.st 2) [])], [], [], [], 7⟩ true (.s .p (.s .p (.s .p (.s .p (.s .p (.s .p (.dr [0, 0, 1, 2, 4, 4, 4, 4, 4] [4, 5, 6] false [])))))))) .p))))) a := by kernel_rfl
def c_15 : Con te := conOf te [.d .str, .d (.int .i64)] [(.sl (.st 2), []), (.str, []), (.int .i64, [])] true fun a => wire_Split a.1 a.2.1
theorem ok_15 : Con.OK Tryz.prog te 15 c_15 ∧ bodyB Tryz.prog 15 = true := ⟨conOf_ok eqL_ok (tb_ok ok_12 (tb_ok ok_28 tnil_ok)) Tryz.func15 (by kernel_rfl) e_15, by kernel_rfl⟩
/-- filespace/wire.Size -/
theorem e_10 (a : PA te [.d (.st 2)]) : wire_Size a.1 = evFun Tryz.prog te eqL (tb 8 c_8 tnil) Tryz.f10 [.d (.st 2)] [(.int .i64, [])] (.p : Pl) a := by kernel_rfl
def c_10 : Con te := conOf te [.d (.st 2)] [(.int .i64, [])] false fun a => wire_Size a.1
theorem ok_10 : Con.OK Tryz.prog te 10 c_10 ∧ bodyB Tryz.prog 10 = true := ⟨conOf_ok eqL_ok (tb_ok ok_8 tnil_ok) Tryz.func10 (by kernel_rfl) e_10, by kernel_rfl⟩
/-- filespace/filespaceref08.Same -/
theorem e_14 (a : PA te [.d (.st 2), .d (.st 2)]) : ref08_Same a.1 a.2.1 = evFun Tryz.prog te eqL tnil Tryz.f14 [.d (.st 2), .d (.st 2)] [(.bool, [])] (.s .p (.s .p (.s (.s .p (.lp ⟨[(28, .d (.int .i64))], [], [2, 3, 27], [0, 2], [], 8017⟩ ⟨[], [], [2, 3], [0, 2], [], 8017⟩ true (.s .p (.s .p (.s (.s .p (.s (.dr [0, 0, 0, 0, 0, 0, 0, 0, 0, 0, 0] [] false []) .p)) .p))))) (.s (.s .p (.lp ⟨[(46, .d (.int .i64))], [], [2, 3, 45], [0, 2], [], 8021⟩ ⟨[], [], [2, 3], [0, 2], [], 8021⟩ true (.s .p (.s .p (.s (.s .p (.s (.dr [0, 0, 0, 0, 0, 0, 0, 0, 0, 0, 0] [] false []) .p)) .p))))) .p)))) a := by kernel_rfl
def c_14 : Con te := conOf te [.d (.st 2), .d (.st 2)] [(.bool, [])] false fun a => ref08_Same a.1 a.2.1
theorem ok_14 : Con.OK Tryz.prog te 14 c_14 ∧ bodyB Tryz.prog 14 = true := ⟨conOf_ok eqL_ok tnil_ok Tryz.func14 (by kernel_rfl) e_14, by kernel_rfl⟩
/-- filespace/filespacelaw09.alive -/
theorem e_7 (a : PA te []) : law09_alive = evFun Tryz.prog te eqL (tb 14 c_14 (tb 10 c_10 (tb 15 c_15 (tb 12 c_12 (tb 8 c_8 tnil))))) Tryz.f7 [] [(.bool, [])] (.s .p (.s .p (.s .p (.s .p (.s .p (.s .p (.s .p (.s (.dr [0, 0, 0, 0, 0, 0, 0, 0, 0, 0, 0, 0, 0, 0, 0, 0, 0, 0, 0, 0, 0, 0, 0, 0, 0, 0, 0, 0, 0, 0, 0, 0, 0, 0, 0, 0, 0, 0, 0, 0, 0, 0, 0, 0, 0, 0, 0, 0, 0, 0, 0, 0, 0, 0] [] false []) .p)))))))) a := by kernel_rfl
def c_7 : Con te := conOf te [] [(.bool, [])] false fun _ => law09_alive
theorem ok_7 : Con.OK Tryz.prog te 7 c_7 ∧ bodyB Tryz.prog 7 = true := ⟨conOf_ok eqL_ok (tb_ok ok_14 (tb_ok ok_10 (tb_ok ok_15 (tb_ok ok_12 (tb_ok ok_8 tnil_ok))))) Tryz.func7 (by kernel_rfl) e_7, by kernel_rfl⟩
/-- filespace/filespaceref08.late -/
theorem e_86 (a : PA te [.d (.int .i64)]) : ref08_late a.1 = evFun Tryz.prog te eqL tnil Tryz.f86 [.d (.int .i64)] [(.str, [])] (.p : Pl) a := by kernel_rfl
def c_86 : Con te := conOf te [.d (.int .i64)] [(.str, [])] false fun a => ref08_late a.1
theorem ok_86 : Con.OK Tryz.prog te 86 c_86 ∧ bodyB Tryz.prog 86 = true := ⟨conOf_ok eqL_ok tnil_ok Tryz.func86 (by kernel_rfl) e_86, by kernel_rfl⟩
/-- filespace/filespaceref08.Name -/
theorem e_47 (a : PA te [.d (.int .i64)]) : ref08_Name a.1 = evFun Tryz.prog te eqL (tb 86 c_86 tnil) Tryz.f47 [.d (.int .i64)] [(.str, [])] (.p : Pl) a := by kernel_rfl
def c_47 : Con te := conOf te [.d (.int .i64)] [(.str, [])] false fun a => ref08_Name a.1
theorem ok_47 : Con.OK Tryz.prog te 47 c_47 ∧ bodyB Tryz.prog 47 = true := ⟨conOf_ok eqL_ok (tb_ok ok_86 tnil_ok) Tryz.func47 (by kernel_rfl) e_47, by kernel_rfl⟩
/-- filespace/filespaceref08.tag -/
theorem e_48 (a : PA te [.d (.st 2)]) : ref08_tag a.1 = evFun Tryz.prog te eqL tnil Tryz.f48 [.d (.st 2)] [(.int .i64, [])] (.p : Pl) a := by kernel_rfl
def c_48 : Con te := conOf te [.d (.st 2)] [(.int .i64, [])] false fun a => ref08_tag a.1
theorem ok_48 : Con.OK Tryz.prog te 48 c_48 ∧ bodyB Tryz.prog 48 = true := ⟨conOf_ok eqL_ok tnil_ok Tryz.func48 (by kernel_rfl) e_48, by kernel_rfl⟩
/-- filespace/filespaceref08.Fields -/
theorem e_51 (a : PA te [.d (.int .i64)]) : ref08_Fields a.1 = evFun Tryz.prog te eqL tnil Tryz.f51 [.d (.int .i64)] [(.str, [])] (.s .p (.s (.s .p (.s .p (.s .p (.s .p (.s .p (.s .p (.s .p (.j ⟨[(10, .d .bool)], [], [3], [], [], 8⟩ false .p (.s .p (.s .p (.s .p (.s .p (.s .p (.s .p (.s .p (.s .p (.s .p (.s .p (.s .p (.s .p (.s .p (.j ⟨[(25, .d .bool)], [], [3], [], [], 20⟩ false .p (.s .p (.s .p (.s .p (.s .p (.s .p (.s .p (.s .p (.s .p (.s .p (.s .p (.s .p (.j ⟨[(38, .d .bool)], [], [3], [], [], 30⟩ false .p .p)))))))))))))))))))))))))))))))))) .p)) a := by kernel_rfl
def c_51 : Con te := conOf te [.d (.int .i64)] [(.str, [])] false fun a => ref08_Fields a.1
theorem ok_51 : Con.OK Tryz.prog te 51 c_51 ∧ bodyB Tryz.prog 51 = true := ⟨conOf_ok eqL_ok tnil_ok Tryz.func51 (by kernel_rfl) e_51, by kernel_rfl⟩
/-- filespace/filespaceref08.Uses -/
theorem e_49 (a : PA te [.d (.int .i64), .d (.int .u8)]) : ref08_Uses a.1 a.2.1 = evFun Tryz.prog te eqL (tb 51 c_51 tnil) Tryz.f49 [.d (.int .i64), .d (.int .u8)] [(.bool, [])] (.s .p (.s .p (.s (.s .p (.lp ⟨[(6, .d (.int .i64))], [], [1, 5], [], [], 5⟩ ⟨[], [], [], [], [], 5⟩ true .p)) .p))) a := by kernel_rfl
def c_49 : Con te := conOf te [.d (.int .i64), .d (.int .u8)] [(.bool, [])] false fun a => ref08_Uses a.1 a.2.1
theorem ok_49 : Con.OK Tryz.prog te 49 c_49 ∧ bodyB Tryz.prog 49 = true := ⟨conOf_ok eqL_ok (tb_ok ok_51 tnil_ok) Tryz.func49 (by kernel_rfl) e_49, by kernel_rfl⟩
/-- filespace/filespaceref08.zeroLate -/
theorem e_87 (a : PA te [.d (.st 2), .d (.int .u8)]) : ref08_zeroLate a.1 a.2.1 = evFun Tryz.prog te eqL tnil Tryz.f87 [.d (.st 2), .d (.int .u8)] [(.bool, [])] (.p : Pl) a := by kernel_rfl
def c_87 : Con te := conOf te [.d (.st 2), .d (.int .u8)] [(.bool, [])] false fun a => ref08_zeroLate a.1 a.2.1
theorem ok_87 : Con.OK Tryz.prog te 87 c_87 ∧ bodyB Tryz.prog 87 = true := ⟨conOf_ok eqL_ok tnil_ok Tryz.func87 (by kernel_rfl) e_87, by kernel_rfl⟩
/-- filespace/filespaceref08.Zero -/
theorem e_50 (a : PA te [.d (.st 2), .d (.int .u8)]) : ref08_Zero a.1 a.2.1 = evFun Tryz.prog te eqL (tb 87 c_87 tnil) Tryz.f50 [.d (.st 2), .d (.int .u8)] [(.bool, [])] (.p : Pl) a := by kernel_rfl
def c_50 : Con te := conOf te [.d (.st 2), .d (.int .u8)] [(.bool, [])] false fun a => ref08_Zero a.1 a.2.1
theorem ok_50 : Con.OK Tryz.prog te 50 c_50 ∧ bodyB Tryz.prog 50 = true := ⟨conOf_ok eqL_ok (tb_ok ok_87 tnil_ok) Tryz.func50 (by kernel_rfl) e_50, by kernel_rfl⟩
/-- filespace/filespaceref08.number -/
theorem e_88 (a : PA te [.d (.int .i64), .d (.int .i64)]) : ref08_number a.1 a.2.1 = evFun Tryz.prog te eqL tnil Tryz.f88 [.d (.int .i64), .d (.int .i64)] [(.int .i64, [])] (.p : Pl) a := by kernel_rfl
def c_88 : Con te := conOf te [.d (.int .i64), .d (.int .i64)] [(.int .i64, [])] false fun a => ref08_number a.1 a.2.1
theorem ok_88 : Con.OK Tryz.prog te 88 c_88 ∧ bodyB Tryz.prog 88 = true := ⟨conOf_ok eqL_ok tnil_ok Tryz.func88 (by kernel_rfl) e_88, by kernel_rfl⟩
/-- filespace/filespaceref08.length -/
theorem e_89 (a : PA te [.d .str, .d (.int .i64)]) : ref08_length a.1 a.2.1 = evFun Tryz.prog te eqL tnil Tryz.f89 [.d .str, .d (.int .i64)] [(.int .i64, [])] (.p : Pl) a := by kernel_rfl
def c_89 : Con te := conOf te [.d .str, .d (.int .i64)] [(.int .i64, [])] false fun a => ref08_length a.1 a.2.1
theorem ok_89 : Con.OK Tryz.prog te 89 c_89 ∧ bodyB Tryz.prog 89 = true := ⟨conOf_ok eqL_ok tnil_ok Tryz.func89 (by kernel_rfl) e_89, by kernel_rfl⟩
/-- filespace/filespaceref03.Valid -/
theorem e_108 (a : PA te [.d .str]) : ref03_Valid a.1 = evFun Tryz.prog te eqL tnil Tryz.f108 [.d .str] [(.bool, [])] (.s .p (.s (.s .p (.lp ⟨[(3, .d (.int .i64))], [], [0], [], [], 2⟩ ⟨[], [], [0], [], [], 2⟩ true .p)) .p)) a := by kernel_rfl
def c_108 : Con te := conOf te [.d .str] [(.bool, [])] false fun a => ref03_Valid a.1
theorem ok_108 : Con.OK Tryz.prog te 108 c_108 ∧ bodyB Tryz.prog 108 = true := ⟨conOf_ok eqL_ok tnil_ok Tryz.func108 (by kernel_rfl) e_108, by kernel_rfl⟩
/-- filespace/filespaceref08.names -/
theorem e_90 (a : PA te [.d (.sl .str)]) : ref08_names a.1 = evFun Tryz.prog te eqL (tb 108 c_108 tnil) Tryz.f90 [.d (.sl .str)] [(.int .i64, [])] (.s .p (.s .p (.s (.s .p (.lp ⟨[(9, .d (.int .i64))], [], [0, 8], [], [], 7⟩ ⟨[], [], [], [], [], 7⟩ true .p)) .p))) a := by kernel_rfl
def c_90 : Con te := conOf te [.d (.sl .str)] [(.int .i64, [])] false fun a => ref08_names a.1
theorem ok_90 : Con.OK Tryz.prog te 90 c_90 ∧ bodyB Tryz.prog 90 = true := ⟨conOf_ok eqL_ok (tb_ok ok_108 tnil_ok) Tryz.func90 (by kernel_rfl) e_90, by kernel_rfl⟩
/-- filespace/filespaceref08.qid -/
theorem e_92 (a : PA te [.d (.st 0)]) : ref08_qid a.1 = evFun Tryz.prog te eqL tnil Tryz.f92 [.d (.st 0)] [(.int .i64, [])] (.p : Pl) a := by kernel_rfl
def c_92 : Con te := conOf te [.d (.st 0)] [(.int .i64, [])] false fun a => ref08_qid a.1
theorem ok_92 : Con.OK Tryz.prog te 92 c_92 ∧ bodyB Tryz.prog 92 = true := ⟨conOf_ok eqL_ok tnil_ok Tryz.func92 (by kernel_rfl) e_92, by kernel_rfl⟩
/-- filespace/filespaceref08.qids -/
theorem e_91 (a : PA te [.d (.sl (.st 0))]) : ref08_qids a.1 = evFun Tryz.prog te eqL (tb 92 c_92 tnil) Tryz.f91 [.d (.sl (.st 0))] [(.int .i64, [])] (.s .p (.s .p (.s (.s .p (.lp ⟨[(10, .d (.int .i64))], [], [0, 9], [], [], 7⟩ ⟨[], [], [], [], [], 7⟩ true .p)) .p))) a := by kernel_rfl
def c_91 : Con te := conOf te [.d (.sl (.st 0))] [(.int .i64, [])] false fun a => ref08_qids a.1
theorem ok_91 : Con.OK Tryz.prog te 91 c_91 ∧ bodyB Tryz.prog 91 = true := ⟨conOf_ok eqL_ok (tb_ok ok_92 tnil_ok) Tryz.func91 (by kernel_rfl) e_91, by kernel_rfl⟩
/-- filespace/filespaceref07.sum -/
theorem e_125 (a : PA te [.d (.int .i64), .d (.int .i64)]) : ref07_sum a.1 a.2.1 = evFun Tryz.prog te eqL tnil Tryz.f125 [.d (.int .i64), .d (.int .i64)] [(.bool, [])] (.p : Pl) a := by kernel_rfl
def c_125 : Con te := conOf te [.d (.int .i64), .d (.int .i64)] [(.bool, [])] false fun a => ref07_sum a.1 a.2.1
theorem ok_125 : Con.OK Tryz.prog te 125 c_125 ∧ bodyB Tryz.prog 125 = true := ⟨conOf_ok eqL_ok tnil_ok Tryz.func125 (by kernel_rfl) e_125, by kernel_rfl⟩
/-- filespace/filespaceref07.in -/
theorem e_126 (a : PA te [.d (.int .i64), .d (.int .i64)]) : ref07_in a.1 a.2.1 = evFun Tryz.prog te eqL tnil Tryz.f126 [.d (.int .i64), .d (.int .i64)] [(.bool, [])] (.p : Pl) a := by kernel_rfl
def c_126 : Con te := conOf te [.d (.int .i64), .d (.int .i64)] [(.bool, [])] false fun a => ref07_in a.1 a.2.1
theorem ok_126 : Con.OK Tryz.prog te 126 c_126 ∧ bodyB Tryz.prog 126 = true := ⟨conOf_ok eqL_ok tnil_ok Tryz.func126 (by kernel_rfl) e_126, by kernel_rfl⟩
/-- filespace/filespaceref07.Numbers -/
theorem e_116 (a : PA te [.d (.st 1)]) : ref07_Numbers a.1 = evFun Tryz.prog te eqL (tb 126 c_126 (tb 125 c_125 tnil)) Tryz.f116 [.d (.st 1)] [(.bool, [])] (.p : Pl) a := by kernel_rfl
def c_116 : Con te := conOf te [.d (.st 1)] [(.bool, [])] false fun a => ref07_Numbers a.1
theorem ok_116 : Con.OK Tryz.prog te 116 c_116 ∧ bodyB Tryz.prog 116 = true := ⟨conOf_ok eqL_ok (tb_ok ok_126 (tb_ok ok_125 tnil_ok)) Tryz.func116 (by kernel_rfl) e_116, by kernel_rfl⟩
/-- filespace/filespaceref07.Check -/
theorem e_109 (a : PA te [.d (.st 1)]) : ref07_Check a.1 = evFun Tryz.prog te eqL (tb 108 c_108 (tb 116 c_116 tnil)) Tryz.f109 [.d (.st 1)] [(.int .i64, [])] (.p : Pl) a := by kernel_rfl
def c_109 : Con te := conOf te [.d (.st 1)] [(.int .i64, [])] false fun a => ref07_Check a.1
theorem ok_109 : Con.OK Tryz.prog te 109 c_109 ∧ bodyB Tryz.prog 109 = true := ⟨conOf_ok eqL_ok (tb_ok ok_108 (tb_ok ok_116 tnil_ok)) Tryz.func109 (by kernel_rfl) e_109, by kernel_rfl⟩
/-- filespace/filespaceref08.faultLate -/
theorem e_93 (a : PA te [.d (.st 2), .d (.int .u8)]) : ref08_faultLate a.1 a.2.1 = evFun Tryz.prog te eqL (tb 109 c_109 (tb 89 c_89 (tb 108 c_108 (tb 88 c_88 tnil)))) Tryz.f93 [.d (.st 2), .d (.int .u8)] [(.int .i64, [])] (.p : Pl) a := by kernel_rfl
def c_93 : Con te := conOf te [.d (.st 2), .d (.int .u8)] [(.int .i64, [])] false fun a => ref08_faultLate a.1 a.2.1
theorem ok_93 : Con.OK Tryz.prog te 93 c_93 ∧ bodyB Tryz.prog 93 = true := ⟨conOf_ok eqL_ok (tb_ok ok_109 (tb_ok ok_89 (tb_ok ok_108 (tb_ok ok_88 tnil_ok)))) Tryz.func93 (by kernel_rfl) e_93, by kernel_rfl⟩
/-- filespace/filespaceref08.fault -/
theorem e_52 (a : PA te [.d (.st 2), .d (.int .u8)]) : ref08_fault a.1 a.2.1 = evFun Tryz.prog te eqL (tb 93 c_93 (tb 92 c_92 (tb 91 c_91 (tb 90 c_90 (tb 89 c_89 (tb 88 c_88 tnil)))))) Tryz.f52 [.d (.st 2), .d (.int .u8)] [(.int .i64, [])] (.p : Pl) a := by kernel_rfl
def c_52 : Con te := conOf te [.d (.st 2), .d (.int .u8)] [(.int .i64, [])] false fun a => ref08_fault a.1 a.2.1
theorem ok_52 : Con.OK Tryz.prog te 52 c_52 ∧ bodyB Tryz.prog 52 = true := ⟨conOf_ok eqL_ok (tb_ok ok_93 (tb_ok ok_92 (tb_ok ok_91 (tb_ok ok_90 (tb_ok ok_89 (tb_ok ok_88 tnil_ok)))))) Tryz.func52 (by kernel_rfl) e_52, by kernel_rfl⟩
/-- filespace/filespaceref08.Check -/
theorem e_23 (a : PA te [.d (.st 2)]) : ref08_Check a.1 = evFun Tryz.prog te eqL (tb 52 c_52 (tb 51 c_51 (tb 50 c_50 (tb 49 c_49 (tb 48 c_48 (tb 47 c_47 tnil)))))) Tryz.f23 [.d (.st 2)] [(.int .i64, [])] (.s .p (.s .p (.s .p (.s (.s .p (.lp ⟨[(4, .d (.int .i64))], [], [1], [0], [], 13⟩ ⟨[], [], [1], [0], [], 13⟩ true (.s .p (.s (.s (.dr [0, 0, 0, 0, 0, 0, 0, 0, 0, 0, 0, 0, 0] [] false []) .p) .p)))) (.s .p (.s (.s .p (.lp ⟨[(6, .d (.int .i64))], [], [1, 5], [0], [], 18⟩ ⟨[], [], [], [], [], 18⟩ true (.s .p (.s (.s (.dr [0, 0, 0, 0, 0, 0] [] false []) .p) .p)))) .p)))))) a := by kernel_rfl
def c_23 : Con te := conOf te [.d (.st 2)] [(.int .i64, [])] false fun a => ref08_Check a.1
theorem ok_23 : Con.OK Tryz.prog te 23 c_23 ∧ bodyB Tryz.prog 23 = true := ⟨conOf_ok eqL_ok (tb_ok ok_52 (tb_ok ok_51 (tb_ok ok_50 (tb_ok ok_49 (tb_ok ok_48 (tb_ok ok_47 tnil_ok)))))) Tryz.func23 (by kernel_rfl) e_23, by kernel_rfl⟩
/-- filespace/filespaceref09.Fields -/
theorem e_24 (a : PA te [.d (.int .i64)]) : ref09_Fields a.1 = evFun Tryz.prog te eqL tnil Tryz.f24 [.d (.int .i64)] [(.sl (.int .i64), []), (.bool, [])] (.s .p (.s (.s .p (.s .p (.s .p (.s .p (.s .p (.s .p (.s .p (.j ⟨[(14, .d .bool)], [], [4], [], [], 9⟩ false .p (.s .p (.s .p (.s .p (.s .p (.s .p (.s .p (.s .p (.s .p (.s .p (.s .p (.s .p (.s .p (.s .p (.j ⟨[(36, .d .bool)], [], [4], [], [], 21⟩ false .p (.s .p (.s .p (.s .p (.s .p (.s .p (.s .p (.s .p (.s .p (.s .p (.s .p (.s .p (.j ⟨[(55, .d .bool)], [], [4], [], [], 31⟩ false .p (.s .p (.s .p (.s .p (.s .p (.s .p (.s .p (.s .p (.s .p (.s .p (.s .p (.s .p (.j ⟨[(75, .d .bool)], [], [], [], [], 41⟩ false .p .p)))))))))))))))))))))))))))))))))))))))))))))) .p)) a := by kernel_rfl
def c_24 : Con te := conOf te [.d (.int .i64)] [(.sl (.int .i64), []), (.bool, [])] true fun a => ref09_Fields a.1
theorem ok_24 : Con.OK Tryz.prog te 24 c_24 ∧ bodyB Tryz.prog 24 = true := ⟨conOf_ok eqL_ok tnil_ok Tryz.func24 (by kernel_rfl) e_24, by kernel_rfl⟩
/-- filespace/filespaceref02.valid -/
theorem e_57 (a : PA te [.d (.int .i64)]) : ref02_valid a.1 = evFun Tryz.prog te eqL tnil Tryz.f57 [.d (.int .i64)] [(.bool, [])] (.p : Pl) a := by kernel_rfl
def c_57 : Con te := conOf te [.d (.int .i64)] [(.bool, [])] false fun a => ref02_valid a.1
theorem ok_57 : Con.OK Tryz.prog te 57 c_57 ∧ bodyB Tryz.prog 57 = true := ⟨conOf_ok eqL_ok tnil_ok Tryz.func57 (by kernel_rfl) e_57, by kernel_rfl⟩
/-- filespace/filespaceref02.Put -/
theorem e_27 (a : PA te [.d (.int .i64), .d (.int .i64)]) : ref02_Put a.1 a.2.1 = evFun Tryz.prog te eqL (tb 57 c_57 tnil) Tryz.f27 [.d (.int .i64), .d (.int .i64)] [(.str, []), (.int .i64, [])] (.s .p (.s .p (.s .p (.s .p (.s (.s .p (.lp ⟨[(6, .d .str), (7, .d (.int .i64)), (8, .d (.int .i64))], [], [1], [], [], 9⟩ ⟨[(6, .d .str), (7, .d (.int .i64))], [], [], [], [], 9⟩ false .p)) .p))))) a := by kernel_rfl
def c_27 : Con te := conOf te [.d (.int .i64), .d (.int .i64)] [(.str, []), (.int .i64, [])] false fun a => ref02_Put a.1 a.2.1
theorem ok_27 : Con.OK Tryz.prog te 27 c_27 ∧ bodyB Tryz.prog 27 = true := ⟨conOf_ok eqL_ok (tb_ok ok_57 tnil_ok) Tryz.func27 (by kernel_rfl) e_27, by kernel_rfl⟩
/-- filespace/filespaceref09.num -/
theorem e_25 (a : PA te [.d (.st 9), .d (.int .i64), .d (.int .i64)]) : ref09_num a.1 a.2.1 a.2.2.1 = evFun Tryz.prog te eqL (tb 27 c_27 tnil) Tryz.f25 [.d (.st 9), .d (.int .i64), .d (.int .i64)] [(.st 9, [])] (.s .p (.s .p (.j ⟨[], [(0, true, .box 56 (.st 9))], [3, 6], [2], [], 12⟩ false .p .p))) a := by kernel_rfl
def c_25 : Con te := conOf te [.d (.st 9), .d (.int .i64), .d (.int .i64)] [(.st 9, [])] false fun a => ref09_num a.1 a.2.1 a.2.2.1
theorem ok_25 : Con.OK Tryz.prog te 25 c_25 ∧ bodyB Tryz.prog 25 = true := ⟨conOf_ok eqL_ok (tb_ok ok_27 tnil_ok) Tryz.func25 (by kernel_rfl) e_25, by kernel_rfl⟩
/-- filespace/filespaceref02.PutText -/
theorem e_94 (a : PA te [.d .str]) : ref02_PutText a.1 = evFun Tryz.prog te eqL (tb 27 c_27 tnil) Tryz.f94 [.d .str] [(.str, []), (.int .i64, [])] (.p : Pl) a := by kernel_rfl
def c_94 : Con te := conOf te [.d .str] [(.str, []), (.int .i64, [])] false fun a => ref02_PutText a.1
theorem ok_94 : Con.OK Tryz.prog te 94 c_94 ∧ bodyB Tryz.prog 94 = true := ⟨conOf_ok eqL_ok (tb_ok ok_27 tnil_ok) Tryz.func94 (by kernel_rfl) e_94, by kernel_rfl⟩
/-- filespace/filespaceref09.text -/
theorem e_53 (a : PA te [.d (.st 9), .d .str]) : ref09_text a.1 a.2.1 = evFun Tryz.prog te eqL (tb 94 c_94 tnil) Tryz.f53 [.d (.st 9), .d .str] [(.st 9, [])] (.s .p (.s .p (.j ⟨[], [(0, true, .box 56 (.st 9))], [2, 4], [2], [], 11⟩ false .p .p))) a := by kernel_rfl
def c_53 : Con te := conOf te [.d (.st 9), .d .str] [(.st 9, [])] false fun a => ref09_text a.1 a.2.1
theorem ok_53 : Con.OK Tryz.prog te 53 c_53 ∧ bodyB Tryz.prog 53 = true := ⟨conOf_ok eqL_ok (tb_ok ok_94 tnil_ok) Tryz.func53 (by kernel_rfl) e_53, by kernel_rfl⟩
/-- filespace/filespaceref09.qid -/
theorem e_54 (a : PA te [.d (.st 9), .d (.st 0)]) : ref09_qid a.1 a.2.1 = evFun Tryz.prog te eqL (tb 25 c_25 tnil) Tryz.f54 [.d (.st 9), .d (.st 0)] [(.st 9, [])] (.s .p (.s (.dr [0, 0, 0, 0, 0, 0, 0, 0, 0, 0, 2] [] false []) .p)) a := by kernel_rfl
def c_54 : Con te := conOf te [.d (.st 9), .d (.st 0)] [(.st 9, [])] false fun a => ref09_qid a.1 a.2.1
theorem ok_54 : Con.OK Tryz.prog te 54 c_54 ∧ bodyB Tryz.prog 54 = true := ⟨conOf_ok eqL_ok (tb_ok ok_25 tnil_ok) Tryz.func54 (by kernel_rfl) e_54, by kernel_rfl⟩
/-- filespace/filespaceref04.texts -/
theorem e_95 (a : PA te []) : ref04_texts = evFun Tryz.prog te eqL tnil Tryz.f95 [] [(.sl .str, [some 9])] (.p : Pl) a := by kernel_rfl
def c_95 : Con te := conOf te [] [(.sl .str, [some 9])] false fun _ => ref04_texts
theorem ok_95 : Con.OK Tryz.prog te 95 c_95 ∧ bodyB Tryz.prog 95 = true := ⟨conOf_ok eqL_ok tnil_ok Tryz.func95 (by kernel_rfl) e_95, by kernel_rfl⟩
/-- filespace/filespaceref04.Text -/
theorem e_55 (a : PA te [.d (.int .i64)]) : ref04_Text a.1 = evFun Tryz.prog te eqL (tb 95 c_95 tnil) Tryz.f55 [.d (.int .i64)] [(.str, [])] (.p : Pl) a := by kernel_rfl
def c_55 : Con te := conOf te [.d (.int .i64)] [(.str, [])] false fun a => ref04_Text a.1
theorem ok_55 : Con.OK Tryz.prog te 55 c_55 ∧ bodyB Tryz.prog 55 = true := ⟨conOf_ok eqL_ok (tb_ok ok_95 tnil_ok) Tryz.func55 (by kernel_rfl) e_55, by kernel_rfl⟩
/-- filespace/filespaceref07.little -/
theorem e_110 (a : PA te [.d (.int .i64), .d (.int .i64)]) : ref07_little a.1 a.2.1 = evFun Tryz.prog te eqL tnil Tryz.f110 [.d (.int .i64), .d (.int .i64)] [(.str, [])] (.s .p (.s .p (.s (.s .p (.lp ⟨[(5, .d .str), (6, .d (.int .i64))], [], [0, 1], [], [], 3⟩ ⟨[(5, .d .str)], [], [], [], [], 3⟩ false .p)) .p))) a := by kernel_rfl
def c_110 : Con te := conOf te [.d (.int .i64), .d (.int .i64)] [(.str, [])] false fun a => ref07_little a.1 a.2.1
theorem ok_110 : Con.OK Tryz.prog te 110 c_110 ∧ bodyB Tryz.prog 110 = true := ⟨conOf_ok eqL_ok tnil_ok Tryz.func110 (by kernel_rfl) e_110, by kernel_rfl⟩
/-- filespace/filespaceref07.counted -/
theorem e_111 (a : PA te [.d .str]) : ref07_counted a.1 = evFun Tryz.prog te eqL (tb 110 c_110 tnil) Tryz.f111 [.d .str] [(.str, [])] (.p : Pl) a := by kernel_rfl
def c_111 : Con te := conOf te [.d .str] [(.str, [])] false fun a => ref07_counted a.1
theorem ok_111 : Con.OK Tryz.prog te 111 c_111 ∧ bodyB Tryz.prog 111 = true := ⟨conOf_ok eqL_ok (tb_ok ok_110 tnil_ok) Tryz.func111 (by kernel_rfl) e_111, by kernel_rfl⟩
/-- filespace/filespaceref07.Put -/
theorem e_96 (a : PA te [.d (.st 1)]) : ref07_Put a.1 = evFun Tryz.prog te eqL (tb 111 c_111 (tb 110 c_110 (tb 109 c_109 tnil))) Tryz.f96 [.d (.st 1)] [(.str, []), (.int .i64, [])] (.s .p (.s .p (.s (.dr [0, 0, 0, 0, 0, 0, 0, 0, 0, 0, 0, 0, 0, 0, 0] [] false []) (.s (.dr [0, 0, 0, 0, 0, 0, 0, 0, 0, 0, 0, 0, 0, 0, 0, 0, 0, 0, 0, 0, 0, 0, 0, 0, 0, 0] [] false []) (.s (.dr [0, 0, 0, 0, 0, 0, 0, 0, 0, 0, 0, 0, 0, 0, 0, 0, 0, 0] [] false []) .p))))) a := by kernel_rfl
def c_96 : Con te := conOf te [.d (.st 1)] [(.str, []), (.int .i64, [])] false fun a => ref07_Put a.1
theorem ok_96 : Con.OK Tryz.prog te 96 c_96 ∧ bodyB Tryz.prog 96 = true := ⟨conOf_ok eqL_ok (tb_ok ok_111 (tb_ok ok_110 (tb_ok ok_109 tnil_ok))) Tryz.func96 (by kernel_rfl) e_96, by kernel_rfl⟩
end Go.Proofs.YtboplmpnjepdnaaGreat
