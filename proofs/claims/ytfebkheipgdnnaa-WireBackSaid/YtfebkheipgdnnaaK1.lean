/-
  What the engine says of each function: printed by a program of ours (gosh2.py) off the translation.
-/
import Derived.Test.YtfebkheipgdnnaaLibR
namespace Go.Proofs.Ytfebkheipgdnnaa
open Go.Rt Go.RowKit

/-- filespace/filespacelaw09.small -/
theorem e_6 (a : PA te [.d (.st 2)]) : law09_small a.1 = evFun Try.prog te eqL tnil Try.f6 [.d (.st 2)] [(.bool, [])] (.s .p (.s .p (.s (.s .p (.lp ⟨[(3, .d (.int .i64)), (51, .d (.int .i64))], [], [1, 50], [0], [], 51⟩ ⟨[(3, .d (.int .i64))], [], [1], [0], [], 51⟩ false .p)) .p))) a := by kernel_rfl
def c_6 : Con te := conOf te [.d (.st 2)] [(.bool, [])] false fun a => law09_small a.1
theorem ok_6 : Con.OK Try.prog te 6 c_6 ∧ bodyB Try.prog 6 = true := ⟨conOf_ok eqL_ok tnil_ok Try.func6 (by kernel_rfl) e_6, by kernel_rfl⟩
/-- filespace/msg.Name -/
theorem e_22 (a : PA te [.d (.int .i64)]) : msg_Name a.1 = evFun Try.prog te eqL tnil Try.f22 [.d (.int .i64)] [(.str, [])] (.p : Pl) a := by kernel_rfl
def c_22 : Con te := conOf te [.d (.int .i64)] [(.str, [])] false fun a => msg_Name a.1
theorem ok_22 : Con.OK Try.prog te 22 c_22 ∧ bodyB Try.prog 22 = true := ⟨conOf_ok eqL_ok tnil_ok Try.func22 (by kernel_rfl) e_22, by kernel_rfl⟩
/-- filespace/msg.tagged -/
theorem e_23 (a : PA te [.d (.st 2)]) : msg_tagged a.1 = evFun Try.prog te eqL tnil Try.f23 [.d (.st 2)] [(.bool, [])] (.s .p (.s (.s .p (.j ⟨[(5, .d .bool)], [], [1, 4], [0], [], 5⟩ false .p .p)) .p)) a := by kernel_rfl
def c_23 : Con te := conOf te [.d (.st 2)] [(.bool, [])] false fun a => msg_tagged a.1
theorem ok_23 : Con.OK Try.prog te 23 c_23 ∧ bodyB Try.prog 23 = true := ⟨conOf_ok eqL_ok tnil_ok Try.func23 (by kernel_rfl) e_23, by kernel_rfl⟩
/-- filespace/msg.rest -/
theorem e_46 (a : PA te [.d (.st 2), .d (.st 2)]) : msg_rest a.1 a.2.1 = evFun Try.prog te eqL tnil Try.f46 [.d (.st 2), .d (.st 2)] [(.st 2, [])] (.s .p (.j ⟨[], [(2, true, .box 30 (.st 2))], [3, 4], [4], [], 6⟩ false (.s .p (.s .p (.s (.dr [0, 0, 0, 0, 0, 0, 0, 1, 4, 1, 4, 1] [] true [2]) (.s .p (.s .p (.s .p (.s (.dr [0, 0, 0, 0, 0, 0, 0, 1, 4, 1, 4, 1] [] true [2]) (.s .p (.s .p (.j ⟨[(39, .d .bool)], [], [2, 3, 4, 6], [0, 2, 4], [], 16⟩ false .p (.s .p (.s .p (.s .p (.s .p (.s (.dr [0, 0, 0, 0, 0, 1, 4, 1] [] true [2]) (.s .p (.s (.dr [0, 0, 0, 0, 0, 0, 0, 1, 4, 1, 4, 1] [] true [2]) (.s .p (.s (.dr [0, 0, 0, 0, 0, 0, 0, 1, 4, 1, 4, 1] [] true [2]) .p))))))))))))))))))) .p)) a := by kernel_rfl
def c_46 : Con te := conOf te [.d (.st 2), .d (.st 2)] [(.st 2, [])] true fun a => msg_rest a.1 a.2.1
theorem ok_46 : Con.OK Try.prog te 46 c_46 ∧ bodyB Try.prog 46 = true := ⟨conOf_ok eqL_ok tnil_ok Try.func46 (by kernel_rfl) e_46, by kernel_rfl⟩
/-- filespace/msg.only -/
theorem e_25 (a : PA te [.d (.st 2)]) : msg_only a.1 = evFun Try.prog te eqL (tb 46 c_46 tnil) Try.f25 [.d (.st 2)] [(.st 2, [])] (.s .p (.s .p (.j ⟨[], [(9, true, .box 30 (.st 2))], [2, 3], [2], [], 13⟩ true (.s .p (.s .p (.s (.dr [0, 0, 0, 0, 0, 1, 4, 1] [] true [9]) (.s .p (.s (.dr [0, 0, 0, 0, 0, 0, 0, 1, 4, 1, 4, 1] [] true [9]) (.s .p (.s (.dr [0, 0, 0, 0, 0, 0, 0, 1, 4, 1, 4, 1] [] true [9]) (.s .p (.s (.dr [0, 0, 0, 0, 0, 0, 0, 0, 0, 1, 4, 1, 4, 1, 4, 1] [] true [9]) (.j ⟨[(58, .d .bool)], [], [1, 2, 3, 10], [0, 2, 9], [], 23⟩ false .p (.s .p (.s .p (.s .p (.s .p (.s .p (.s .p (.s (.dr [0, 0, 0, 0, 0, 0, 0, 1, 4, 1, 4, 1] [] true [9]) (.s .p (.s .p (.s .p (.s (.dr [0, 0, 0, 0, 0, 1, 4, 1] [] true [9]) (.j ⟨[(98, .d .bool)], [], [1, 2, 3, 10], [0, 2, 9], [], 33⟩ false .p (.s (.dr [0, 0, 0, 0, 0, 1, 4, 1] [] true [9]) (.s .p (.s (.dr [0, 0, 0, 0, 0, 0, 0, 0, 0, 1, 4, 1, 4, 1, 4, 1] [] true [9]) .p))))))))))))))))))))))))) .p))) a := by kernel_rfl
def c_25 : Con te := conOf te [.d (.st 2)] [(.st 2, [])] true fun a => msg_only a.1
theorem ok_25 : Con.OK Try.prog te 25 c_25 ∧ bodyB Try.prog 25 = true := ⟨conOf_ok eqL_ok (tb_ok ok_46 tnil_ok) Try.func25 (by kernel_rfl) e_25, by kernel_rfl⟩
/-- filespace/msg.Same$1 -/
theorem e_42 (a : PA te [.d (.st 2)]) : msg_Same_1 a.1 = evFun Try.prog te eqL tnil Try.f42 [.d (.st 2)] [(.st 4, [])] (.p : Pl) a := by kernel_rfl
def c_42 : Con te := conOf te [.d (.st 2)] [(.st 4, [])] false fun a => msg_Same_1 a.1
theorem ok_42 : Con.OK Try.prog te 42 c_42 ∧ bodyB Try.prog 42 = true := ⟨conOf_ok eqL_ok tnil_ok Try.func42 (by kernel_rfl) e_42, by kernel_rfl⟩
/-- filespace/msg.Same$2 -/
theorem e_43 (a : PA te [.d (.st 2)]) : msg_Same_2 a.1 = evFun Try.prog te eqL tnil Try.f43 [.d (.st 2)] [(.st 5, [])] (.p : Pl) a := by kernel_rfl
def c_43 : Con te := conOf te [.d (.st 2)] [(.st 5, [])] false fun a => msg_Same_2 a.1
theorem ok_43 : Con.OK Try.prog te 43 c_43 ∧ bodyB Try.prog 43 = true := ⟨conOf_ok eqL_ok tnil_ok Try.func43 (by kernel_rfl) e_43, by kernel_rfl⟩
/-- slices.Equal[[]string,string] -/
theorem e_44 (a : PA te [.d (.sl .str), .d (.sl .str)]) : slices_Equal_stringstring a.1 a.2.1 = evFun Try.prog te eqL tnil Try.f44 [.d (.sl .str), .d (.sl .str)] [(.bool, [])] (.s .p (.s .p (.s (.s .p (.lp ⟨[(13, .d (.int .i64))], [], [0, 1, 12], [], [], 9⟩ ⟨[], [], [], [], [], 9⟩ true (.s .p (.s .p (.s (.s .p (.s (.dr [0, 0, 0, 0, 0, 0, 0, 0, 0] [] false []) .p)) .p))))) .p))) a := by kernel_rfl
def c_44 : Con te := conOf te [.d (.sl .str), .d (.sl .str)] [(.bool, [])] false fun a => slices_Equal_stringstring a.1 a.2.1
theorem ok_44 : Con.OK Try.prog te 44 c_44 ∧ bodyB Try.prog 44 = true := ⟨conOf_ok eqL_ok tnil_ok Try.func44 (by kernel_rfl) e_44, by kernel_rfl⟩
/-- slices.Equal[[]filespace/api.Qid,filespace/api.Qid] -/
theorem e_45 (a : PA te [.d (.sl (.st 0)), .d (.sl (.st 0))]) : slices_Equal_apiQidapiQid a.1 a.2.1 = evFun Try.prog te eqL tnil Try.f45 [.d (.sl (.st 0)), .d (.sl (.st 0))] [(.bool, [])] (.s .p (.s .p (.s (.s .p (.lp ⟨[(13, .d (.int .i64))], [], [0, 1, 12], [], [], 9⟩ ⟨[], [], [], [], [], 9⟩ true (.s .p (.s .p (.s (.s .p (.s (.dr [0, 0, 0, 0, 0, 0, 0, 0, 0] [] false []) .p)) .p))))) .p))) a := by kernel_rfl
def c_45 : Con te := conOf te [.d (.sl (.st 0)), .d (.sl (.st 0))] [(.bool, [])] false fun a => slices_Equal_apiQidapiQid a.1 a.2.1
theorem ok_45 : Con.OK Try.prog te 45 c_45 ∧ bodyB Try.prog 45 = true := ⟨conOf_ok eqL_ok tnil_ok Try.func45 (by kernel_rfl) e_45, by kernel_rfl⟩
/-- filespace/msg.Same -/
theorem e_24 (a : PA te [.d (.st 2), .d (.st 2)]) : msg_Same a.1 a.2.1 = evFun Try.prog te eqL (tb 45 c_45 (tb 44 c_44 (tb 43 c_43 (tb 42 c_42 tnil)))) Try.f24 [.d (.st 2), .d (.st 2)] [(.bool, [])] (.s .p (.s .p (.s .p (.s (.dr [0, 0, 0, 0, 0, 0, 0, 0, 0, 0, 0, 0, 0, 0, 0, 0, 0, 0, 0, 0, 0, 0, 0, 0, 0, 0, 0, 0, 0, 0, 0, 0, 0, 0, 0, 0, 0, 0, 0, 0, 0, 0, 0, 0, 0, 0, 0, 0, 0, 0, 0, 0, 0, 0, 0, 0, 0, 0, 0] [] false []) .p)))) a := by kernel_rfl
def c_24 : Con te := conOf te [.d (.st 2), .d (.st 2)] [(.bool, [])] false fun a => msg_Same a.1 a.2.1
theorem ok_24 : Con.OK Try.prog te 24 c_24 ∧ bodyB Try.prog 24 = true := ⟨conOf_ok eqL_ok (tb_ok ok_45 (tb_ok ok_44 (tb_ok ok_43 (tb_ok ok_42 tnil_ok)))) Try.func24 (by kernel_rfl) e_24, by kernel_rfl⟩
/-- filespace/msg.in -/
theorem e_48 (a : PA te [.d (.int .i64), .d (.int .i64), .d (.int .i64)]) : msg_in a.1 a.2.1 a.2.2.1 = evFun Try.prog te eqL tnil Try.f48 [.d (.int .i64), .d (.int .i64), .d (.int .i64)] [(.int .i64, [])] (.p : Pl) a := by kernel_rfl
def c_48 : Con te := conOf te [.d (.int .i64), .d (.int .i64), .d (.int .i64)] [(.int .i64, [])] false fun a => msg_in a.1 a.2.1 a.2.2.1
theorem ok_48 : Con.OK Try.prog te 48 c_48 ∧ bodyB Try.prog 48 = true := ⟨conOf_ok eqL_ok tnil_ok Try.func48 (by kernel_rfl) e_48, by kernel_rfl⟩
/-- filespace/msg.short -/
theorem e_49 (a : PA te [.d .str, .d (.int .i64)]) : msg_short a.1 a.2.1 = evFun Try.prog te eqL tnil Try.f49 [.d .str, .d (.int .i64)] [(.int .i64, [])] (.p : Pl) a := by kernel_rfl
def c_49 : Con te := conOf te [.d .str, .d (.int .i64)] [(.int .i64, [])] false fun a => msg_short a.1 a.2.1
theorem ok_49 : Con.OK Try.prog te 49 c_49 ∧ bodyB Try.prog 49 = true := ⟨conOf_ok eqL_ok tnil_ok Try.func49 (by kernel_rfl) e_49, by kernel_rfl⟩
/-- filespace/msg.first -/
theorem e_47 (a : PA te [.d (.sl (.int .i64))]) : msg_first a.1 = evFun Try.prog te eqL tnil Try.f47 [.d (.sl (.int .i64))] [(.int .i64, [])] (.s .p (.s (.s .p (.lp ⟨[(7, .d (.int .i64))], [], [5, 6], [], [], 4⟩ ⟨[], [], [], [], [], 4⟩ true .p)) .p)) a := by kernel_rfl
def c_47 : Con te := conOf te [.d (.sl (.int .i64))] [(.int .i64, [])] false fun a => msg_first a.1
theorem ok_47 : Con.OK Try.prog te 47 c_47 ∧ bodyB Try.prog 47 = true := ⟨conOf_ok eqL_ok tnil_ok Try.func47 (by kernel_rfl) e_47, by kernel_rfl⟩
/-- filespace/msg.fid -/
theorem e_50 (a : PA te [.d (.int .i64)]) : msg_fid a.1 = evFun Try.prog te eqL (tb 48 c_48 tnil) Try.f50 [.d (.int .i64)] [(.int .i64, [])] (.p : Pl) a := by kernel_rfl
def c_50 : Con te := conOf te [.d (.int .i64)] [(.int .i64, [])] false fun a => msg_fid a.1
theorem ok_50 : Con.OK Try.prog te 50 c_50 ∧ bodyB Try.prog 50 = true := ⟨conOf_ok eqL_ok (tb_ok ok_48 tnil_ok) Try.func50 (by kernel_rfl) e_50, by kernel_rfl⟩
/-- filespace/msg.qid -/
theorem e_51 (a : PA te [.d (.st 0)]) : msg_qid a.1 = evFun Try.prog te eqL (tb 47 c_47 (tb 48 c_48 tnil)) Try.f51 [.d (.st 0)] [(.int .i64, [])] (.s .p (.s .p (.s (.dr [0, 0, 0, 0, 0, 0, 1, 1, 4] [] false []) .p))) a := by kernel_rfl
def c_51 : Con te := conOf te [.d (.st 0)] [(.int .i64, [])] false fun a => msg_qid a.1
theorem ok_51 : Con.OK Try.prog te 51 c_51 ∧ bodyB Try.prog 51 = true := ⟨conOf_ok eqL_ok (tb_ok ok_47 (tb_ok ok_48 tnil_ok)) Try.func51 (by kernel_rfl) e_51, by kernel_rfl⟩
/-- filespace/path.Valid -/
theorem e_63 (a : PA te [.d .str]) : path_Valid a.1 = evFun Try.prog te eqL tnil Try.f63 [.d .str] [(.bool, [])] (.s .p (.s .p (.s (.s .p (.lp ⟨[(21, .d (.int .i64))], [], [0, 20], [], [], 10009⟩ ⟨[], [], [], [], [], 10009⟩ true .p)) .p))) a := by kernel_rfl
def c_63 : Con te := conOf te [.d .str] [(.bool, [])] false fun a => path_Valid a.1
theorem ok_63 : Con.OK Try.prog te 63 c_63 ∧ bodyB Try.prog 63 = true := ⟨conOf_ok eqL_ok tnil_ok Try.func63 (by kernel_rfl) e_63, by kernel_rfl⟩
/-- filespace/msg.names -/
theorem e_52 (a : PA te [.d (.sl .str)]) : msg_names a.1 = evFun Try.prog te eqL (tb 63 c_63 tnil) Try.f52 [.d (.sl .str)] [(.int .i64, [])] (.s .p (.s .p (.s (.s .p (.lp ⟨[(10, .d (.int .i64))], [], [8, 9], [], [], 7⟩ ⟨[], [], [], [], [], 7⟩ true .p)) .p))) a := by kernel_rfl
def c_52 : Con te := conOf te [.d (.sl .str)] [(.int .i64, [])] false fun a => msg_names a.1
theorem ok_52 : Con.OK Try.prog te 52 c_52 ∧ bodyB Try.prog 52 = true := ⟨conOf_ok eqL_ok (tb_ok ok_63 tnil_ok) Try.func52 (by kernel_rfl) e_52, by kernel_rfl⟩
/-- filespace/msg.qids -/
theorem e_53 (a : PA te [.d (.sl (.st 0))]) : msg_qids a.1 = evFun Try.prog te eqL (tb 51 c_51 tnil) Try.f53 [.d (.sl (.st 0))] [(.int .i64, [])] (.s .p (.s .p (.s (.s .p (.lp ⟨[(11, .d (.int .i64))], [], [9, 10], [], [], 7⟩ ⟨[], [], [], [], [], 7⟩ true .p)) .p))) a := by kernel_rfl
def c_53 : Con te := conOf te [.d (.sl (.st 0))] [(.int .i64, [])] false fun a => msg_qids a.1
theorem ok_53 : Con.OK Try.prog te 53 c_53 ∧ bodyB Try.prog 53 = true := ⟨conOf_ok eqL_ok (tb_ok ok_51 tnil_ok) Try.func53 (by kernel_rfl) e_53, by kernel_rfl⟩
/-- filespace/msg.named -/
theorem e_54 (a : PA te [.d .str]) : msg_named a.1 = evFun Try.prog te eqL (tb 63 c_63 tnil) Try.f54 [.d .str] [(.int .i64, [])] (.p : Pl) a := by kernel_rfl
def c_54 : Con te := conOf te [.d .str] [(.int .i64, [])] false fun a => msg_named a.1
theorem ok_54 : Con.OK Try.prog te 54 c_54 ∧ bodyB Try.prog 54 = true := ⟨conOf_ok eqL_ok (tb_ok ok_63 tnil_ok) Try.func54 (by kernel_rfl) e_54, by kernel_rfl⟩
/-- filespace/stat.numbers -/
theorem e_64 (a : PA te [.d (.st 1)]) : stat_numbers a.1 = evFun Try.prog te eqL tnil Try.f64 [.d (.st 1)] [(.sl (.st 6), [some 110])] (.p : Pl) a := by kernel_rfl
def c_64 : Con te := conOf te [.d (.st 1)] [(.sl (.st 6), [some 110])] false fun a => stat_numbers a.1
theorem ok_64 : Con.OK Try.prog te 64 c_64 ∧ bodyB Try.prog 64 = true := ⟨conOf_ok eqL_ok tnil_ok Try.func64 (by kernel_rfl) e_64, by kernel_rfl⟩
/-- filespace/stat.within -/
theorem e_65 (a : PA te [.d (.int .i64), .d (.int .i64)]) : stat_within a.1 a.2.1 = evFun Try.prog te eqL tnil Try.f65 [.d (.int .i64), .d (.int .i64)] [(.bool, [])] (.p : Pl) a := by kernel_rfl
def c_65 : Con te := conOf te [.d (.int .i64), .d (.int .i64)] [(.bool, [])] false fun a => stat_within a.1 a.2.1
theorem ok_65 : Con.OK Try.prog te 65 c_65 ∧ bodyB Try.prog 65 = true := ⟨conOf_ok eqL_ok tnil_ok Try.func65 (by kernel_rfl) e_65, by kernel_rfl⟩
/-- filespace/stat.Check -/
theorem e_55 (a : PA te [.d (.st 1)]) : stat_Check a.1 = evFun Try.prog te eqL (tb 63 c_63 (tb 65 c_65 (tb 64 c_64 tnil))) Try.f55 [.d (.st 1)] [(.int .i64, [])] (.s .p (.s (.s .p (.lp ⟨[(8, .d (.int .i64))], [(4, true, .row 110 (.st 6) [])], [1, 6, 7], [0], [], 8⟩ ⟨[], [], [1], [0], [], 8⟩ true .p)) .p)) a := by kernel_rfl
def c_55 : Con te := conOf te [.d (.st 1)] [(.int .i64, [])] false fun a => stat_Check a.1
theorem ok_55 : Con.OK Try.prog te 55 c_55 ∧ bodyB Try.prog 55 = true := ⟨conOf_ok eqL_ok (tb_ok ok_63 (tb_ok ok_65 (tb_ok ok_64 tnil_ok))) Try.func55 (by kernel_rfl) e_55, by kernel_rfl⟩
/-- filespace/msg.fields -/
theorem e_26 (a : PA te [.d (.st 2)]) : msg_fields a.1 = evFun Try.prog te eqL (tb 55 c_55 (tb 54 c_54 (tb 53 c_53 (tb 52 c_52 (tb 51 c_51 (tb 50 c_50 (tb 47 c_47 (tb 49 c_49 (tb 48 c_48 tnil))))))))) Try.f26 [.d (.st 2)] [(.int .i64, [])] (.s .p (.s (.s .p (.j ⟨[(5, .d .bool)], [], [1, 4], [0], [], 5⟩ false .p (.s (.s (.dr [0, 0, 0, 0, 0, 0, 0, 0, 0, 1, 1, 4] [] false []) .p) (.s .p (.s (.s (.dr [0, 0, 0, 0, 0, 0, 0, 0, 0, 1, 1, 4] [] false []) .p) (.s .p (.s (.s (.dr [0, 0, 0, 0, 0, 0, 0, 0, 0, 0, 0, 0, 1, 1, 4] [] false []) .p) (.j ⟨[(48, .d .bool)], [], [1, 4], [0], [], 9⟩ false .p (.s (.s (.dr [0, 0, 0, 0, 0, 0, 1, 1, 4] [] false []) .p) (.s .p (.s .p (.s .p (.s .p (.s .p (.s (.s (.dr [0, 0, 0, 0, 0, 0, 0, 0, 0, 1, 1, 4] [] false []) .p) (.s .p (.s .p (.s .p (.s (.s (.dr [0, 0, 0, 0, 0, 0, 1, 1, 4] [] false []) .p) (.s .p (.s (.s (.dr [0, 0, 0, 0, 0, 0, 0, 0, 0, 0, 0, 0, 1, 1, 4] [] false []) .p) (.j ⟨[(115, .d .bool)], [], [1, 4], [0], [], 21⟩ false .p (.s (.s (.dr [0, 0, 0, 0, 0, 0, 0, 0, 0, 0, 0, 0, 1, 1, 4] [] false []) .p) (.j ⟨[(134, .d .bool)], [], [1, 4], [0], [], 21⟩ false .p (.s (.s (.dr [0, 0, 0, 0, 0, 0, 1, 1, 4] [] false []) .p) (.j ⟨[(145, .d .bool)], [], [1, 4], [0], [], 21⟩ false .p (.s (.s (.dr [0, 0, 0, 0, 0, 0, 0, 0, 0, 0, 0, 0, 1, 1, 4] [] false []) .p) .p))))))))))))))))))))))))))) .p)) a := by kernel_rfl
def c_26 : Con te := conOf te [.d (.st 2)] [(.int .i64, [])] false fun a => msg_fields a.1
theorem ok_26 : Con.OK Try.prog te 26 c_26 ∧ bodyB Try.prog 26 = true := ⟨conOf_ok eqL_ok (tb_ok ok_55 (tb_ok ok_54 (tb_ok ok_53 (tb_ok ok_52 (tb_ok ok_51 (tb_ok ok_50 (tb_ok ok_47 (tb_ok ok_49 (tb_ok ok_48 tnil_ok))))))))) Try.func26 (by kernel_rfl) e_26, by kernel_rfl⟩
/-- filespace/msg.Check -/
theorem e_14 (a : PA te [.d (.st 2)]) : msg_Check a.1 = evFun Try.prog te eqL (tb 26 c_26 (tb 24 c_24 (tb 25 c_25 (tb 23 c_23 (tb 22 c_22 tnil))))) Try.f14 [.d (.st 2)] [(.int .i64, [])] (.s .p (.s (.s .p (.s .p (.s .p (.s .p (.s (.dr [0, 1, 0, 1, 4, 4] [2] false []) .p))))) .p)) a := by kernel_rfl
def c_14 : Con te := conOf te [.d (.st 2)] [(.int .i64, [])] false fun a => msg_Check a.1
theorem ok_14 : Con.OK Try.prog te 14 c_14 ∧ bodyB Try.prog 14 = true := ⟨conOf_ok eqL_ok (tb_ok ok_26 (tb_ok ok_24 (tb_ok ok_25 (tb_ok ok_23 (tb_ok ok_22 tnil_ok))))) Try.func14 (by kernel_rfl) e_14, by kernel_rfl⟩
/-- filespace/octet.Put -/
theorem e_18 (a : PA te [.d (.int .i64), .d (.int .i64)]) : octet_Put a.1 a.2.1 = evFun Try.prog te eqL tnil Try.f18 [.d (.int .i64), .d (.int .i64)] [(.str, []), (.int .i64, [])] (.s .p (.s .p (.s .p (.s .p (.s (.s .p (.lp ⟨[(31, .d (.int .i64))], [(13009, true, .row 5 (.int .u8) [])], [0, 6, 30], [], [], 13015⟩ ⟨[], [(13009, true, .row 5 (.int .u8) [])], [6], [], [], 13015⟩ false .p)) .p))))) a := by kernel_rfl
def c_18 : Con te := conOf te [.d (.int .i64), .d (.int .i64)] [(.str, []), (.int .i64, [])] false fun a => octet_Put a.1 a.2.1
theorem ok_18 : Con.OK Try.prog te 18 c_18 ∧ bodyB Try.prog 18 = true := ⟨conOf_ok eqL_ok tnil_ok Try.func18 (by kernel_rfl) e_18, by kernel_rfl⟩
/-- (*filespace/wire.writer).add -/
theorem e_27 (a : PA te [.b 50 (.st 7), .d .str, .d (.int .i64)]) : wire_writer_add a.1 a.2.1 a.2.2.1 = evFun Try.prog te eqL tnil Try.f27 [.b 50 (.st 7), .d .str, .d (.int .i64)] [] (.p : Pl) a := by kernel_rfl
def c_27 : Con te := conOf te [.b 50 (.st 7), .d .str, .d (.int .i64)] [] false fun a => wire_writer_add a.1 a.2.1 a.2.2.1
theorem ok_27 : Con.OK Try.prog te 27 c_27 ∧ bodyB Try.prog 27 = true := ⟨conOf_ok eqL_ok tnil_ok Try.func27 (by kernel_rfl) e_27, by kernel_rfl⟩
/-- (*filespace/wire.writer).number -/
theorem e_15 (a : PA te [.b 50 (.st 7), .d (.int .i64), .d (.int .i64)]) : wire_writer_number a.1 a.2.1 a.2.2.1 = evFun Try.prog te eqL (tb 27 c_27 (tb 18 c_18 tnil)) Try.f15 [.b 50 (.st 7), .d (.int .i64), .d (.int .i64)] [] (.p : Pl) a := by kernel_rfl
def c_15 : Con te := conOf te [.b 50 (.st 7), .d (.int .i64), .d (.int .i64)] [] false fun a => wire_writer_number a.1 a.2.1 a.2.2.1
theorem ok_15 : Con.OK Try.prog te 15 c_15 ∧ bodyB Try.prog 15 = true := ⟨conOf_ok eqL_ok (tb_ok ok_27 (tb_ok ok_18 tnil_ok)) Try.func15 (by kernel_rfl) e_15, by kernel_rfl⟩
/-- filespace/wire.layout -/
theorem e_16 (a : PA te [.d (.int .i64)]) : wire_layout a.1 = evFun Try.prog te eqL tnil Try.f16 [.d (.int .i64)] [(.str, [])] (.s .p (.s (.s .p (.s .p (.s .p (.s .p (.s .p (.s .p (.s .p (.j ⟨[(10, .d .bool)], [], [3], [], [], 8⟩ false .p (.s .p (.s .p (.s .p (.s .p (.s .p (.s .p (.s .p (.s .p (.s .p (.s .p (.s .p (.s .p (.s .p (.j ⟨[(25, .d .bool)], [], [3], [], [], 20⟩ false .p (.s .p (.s .p (.s .p (.s .p (.s .p (.s .p (.s .p (.s .p (.s .p (.s .p (.s .p (.j ⟨[(38, .d .bool)], [], [3], [], [], 30⟩ false .p .p)))))))))))))))))))))))))))))))))) .p)) a := by kernel_rfl
def c_16 : Con te := conOf te [.d (.int .i64)] [(.str, [])] false fun a => wire_layout a.1
theorem ok_16 : Con.OK Try.prog te 16 c_16 ∧ bodyB Try.prog 16 = true := ⟨conOf_ok eqL_ok tnil_ok Try.func16 (by kernel_rfl) e_16, by kernel_rfl⟩
/-- filespace/octet.PutText -/
theorem e_56 (a : PA te [.d .str]) : octet_PutText a.1 = evFun Try.prog te eqL (tb 18 c_18 tnil) Try.f56 [.d .str] [(.str, []), (.int .i64, [])] (.p : Pl) a := by kernel_rfl
def c_56 : Con te := conOf te [.d .str] [(.str, []), (.int .i64, [])] false fun a => octet_PutText a.1
theorem ok_56 : Con.OK Try.prog te 56 c_56 ∧ bodyB Try.prog 56 = true := ⟨conOf_ok eqL_ok (tb_ok ok_18 tnil_ok) Try.func56 (by kernel_rfl) e_56, by kernel_rfl⟩
/-- (*filespace/wire.writer).text -/
theorem e_28 (a : PA te [.b 50 (.st 7), .d .str]) : wire_writer_text a.1 a.2.1 = evFun Try.prog te eqL (tb 27 c_27 (tb 56 c_56 tnil)) Try.f28 [.b 50 (.st 7), .d .str] [] (.p : Pl) a := by kernel_rfl
def c_28 : Con te := conOf te [.b 50 (.st 7), .d .str] [] false fun a => wire_writer_text a.1 a.2.1
theorem ok_28 : Con.OK Try.prog te 28 c_28 ∧ bodyB Try.prog 28 = true := ⟨conOf_ok eqL_ok (tb_ok ok_27 (tb_ok ok_56 tnil_ok)) Try.func28 (by kernel_rfl) e_28, by kernel_rfl⟩
/-- (*filespace/wire.writer).qid -/
theorem e_29 (a : PA te [.b 50 (.st 7), .d (.st 0)]) : wire_writer_qid a.1 a.2.1 = evFun Try.prog te eqL (tb 15 c_15 tnil) Try.f29 [.b 50 (.st 7), .d (.st 0)] [] (.p : Pl) a := by kernel_rfl
def c_29 : Con te := conOf te [.b 50 (.st 7), .d (.st 0)] [] false fun a => wire_writer_qid a.1 a.2.1
theorem ok_29 : Con.OK Try.prog te 29 c_29 ∧ bodyB Try.prog 29 = true := ⟨conOf_ok eqL_ok (tb_ok ok_15 tnil_ok) Try.func29 (by kernel_rfl) e_29, by kernel_rfl⟩
/-- filespace/fault.low -/
theorem e_57 (a : PA te [.d (.int .i64)]) : fault_low a.1 = evFun Try.prog te eqL tnil Try.f57 [.d (.int .i64)] [(.str, [])] (.p : Pl) a := by kernel_rfl
def c_57 : Con te := conOf te [.d (.int .i64)] [(.str, [])] false fun a => fault_low a.1
theorem ok_57 : Con.OK Try.prog te 57 c_57 ∧ bodyB Try.prog 57 = true := ⟨conOf_ok eqL_ok tnil_ok Try.func57 (by kernel_rfl) e_57, by kernel_rfl⟩
/-- filespace/fault.high -/
theorem e_58 (a : PA te [.d (.int .i64)]) : fault_high a.1 = evFun Try.prog te eqL tnil Try.f58 [.d (.int .i64)] [(.str, [])] (.p : Pl) a := by kernel_rfl
def c_58 : Con te := conOf te [.d (.int .i64)] [(.str, [])] false fun a => fault_high a.1
theorem ok_58 : Con.OK Try.prog te 58 c_58 ∧ bodyB Try.prog 58 = true := ⟨conOf_ok eqL_ok tnil_ok Try.func58 (by kernel_rfl) e_58, by kernel_rfl⟩
/-- filespace/fault.Text -/
theorem e_30 (a : PA te [.d (.int .i64)]) : fault_Text a.1 = evFun Try.prog te eqL (tb 58 c_58 (tb 57 c_57 tnil)) Try.f30 [.d (.int .i64)] [(.str, [])] (.p : Pl) a := by kernel_rfl
def c_30 : Con te := conOf te [.d (.int .i64)] [(.str, [])] false fun a => fault_Text a.1
theorem ok_30 : Con.OK Try.prog te 30 c_30 ∧ bodyB Try.prog 30 = true := ⟨conOf_ok eqL_ok (tb_ok ok_58 (tb_ok ok_57 tnil_ok)) Try.func30 (by kernel_rfl) e_30, by kernel_rfl⟩
/-- (*filespace/wire.writer).names -/
theorem e_31 (a : PA te [.b 50 (.st 7), .d (.sl .str)]) : wire_writer_names a.1 a.2.1 = evFun Try.prog te eqL (tb 28 c_28 (tb 15 c_15 tnil)) Try.f31 [.b 50 (.st 7), .d (.sl .str)] [] (.s .p (.s .p (.lp ⟨[(12, .d (.int .i64))], [(0, true, .box 50 (.st 7))], [0, 10, 11], [], [], 10⟩ ⟨[], [(0, true, .box 50 (.st 7))], [], [], [], 10⟩ false .p))) a := by kernel_rfl
def c_31 : Con te := conOf te [.b 50 (.st 7), .d (.sl .str)] [] false fun a => wire_writer_names a.1 a.2.1
theorem ok_31 : Con.OK Try.prog te 31 c_31 ∧ bodyB Try.prog 31 = true := ⟨conOf_ok eqL_ok (tb_ok ok_28 (tb_ok ok_15 tnil_ok)) Try.func31 (by kernel_rfl) e_31, by kernel_rfl⟩
/-- (*filespace/wire.writer).qids -/
theorem e_32 (a : PA te [.b 50 (.st 7), .d (.sl (.st 0))]) : wire_writer_qids a.1 a.2.1 = evFun Try.prog te eqL (tb 29 c_29 (tb 15 c_15 tnil)) Try.f32 [.b 50 (.st 7), .d (.sl (.st 0))] [] (.s .p (.s .p (.lp ⟨[(12, .d (.int .i64))], [(0, true, .box 50 (.st 7))], [0, 10, 11], [], [], 10⟩ ⟨[], [(0, true, .box 50 (.st 7))], [], [], [], 10⟩ false .p))) a := by kernel_rfl
def c_32 : Con te := conOf te [.b 50 (.st 7), .d (.sl (.st 0))] [] false fun a => wire_writer_qids a.1 a.2.1
theorem ok_32 : Con.OK Try.prog te 32 c_32 ∧ bodyB Try.prog 32 = true := ⟨conOf_ok eqL_ok (tb_ok ok_29 (tb_ok ok_15 tnil_ok)) Try.func32 (by kernel_rfl) e_32, by kernel_rfl⟩
/-- (*filespace/wire.writer).data -/
theorem e_33 (a : PA te [.b 50 (.st 7), .d .str, .d (.int .i64)]) : wire_writer_data a.1 a.2.1 a.2.2.1 = evFun Try.prog te eqL (tb 27 c_27 (tb 15 c_15 tnil)) Try.f33 [.b 50 (.st 7), .d .str, .d (.int .i64)] [] (.p : Pl) a := by kernel_rfl
def c_33 : Con te := conOf te [.b 50 (.st 7), .d .str, .d (.int .i64)] [] false fun a => wire_writer_data a.1 a.2.1 a.2.2.1
theorem ok_33 : Con.OK Try.prog te 33 c_33 ∧ bodyB Try.prog 33 = true := ⟨conOf_ok eqL_ok (tb_ok ok_27 (tb_ok ok_15 tnil_ok)) Try.func33 (by kernel_rfl) e_33, by kernel_rfl⟩
/-- filespace/stat.put -/
theorem e_66 (a : PA te [.d (.st 6)]) : stat_put a.1 = evFun Try.prog te eqL (tb 18 c_18 (tb 68 con_strings_Repeat tnil)) Try.f66 [.d (.st 6)] [(.str, [])] (.p : Pl) a := by kernel_rfl
def c_66 : Con te := conOf te [.d (.st 6)] [(.str, [])] false fun a => stat_put a.1
theorem ok_66 : Con.OK Try.prog te 66 c_66 ∧ bodyB Try.prog 66 = true := ⟨conOf_ok eqL_ok (tb_ok ok_18 (tb_ok ok_con_strings_Repeat tnil_ok)) Try.func66 (by kernel_rfl) e_66, by kernel_rfl⟩
/-- filespace/stat.Put -/
theorem e_59 (a : PA te [.d (.st 1)]) : stat_Put a.1 = evFun Try.prog te eqL (tb 18 c_18 (tb 56 c_56 (tb 66 c_66 (tb 64 c_64 (tb 55 c_55 tnil))))) Try.f59 [.d (.st 1)] [(.str, []), (.int .i64, [])] (.s .p (.s .p (.s .p (.s (.s .p (.lp ⟨[(5, .d .str), (22, .d (.int .i64))], [(11, true, .row 110 (.st 6) [])], [1, 20, 21], [0], [], 15⟩ ⟨[(5, .d .str)], [], [1], [0], [], 15⟩ false .p)) (.s (.s .p (.lp ⟨[(5, .d .str), (41, .d (.int .i64))], [(23, true, .row 9 .str [])], [39, 40], [], [], 27⟩ ⟨[(5, .d .str)], [], [], [], [], 27⟩ true .p)) .p))))) a := by kernel_rfl
def c_59 : Con te := conOf te [.d (.st 1)] [(.str, []), (.int .i64, [])] false fun a => stat_Put a.1
theorem ok_59 : Con.OK Try.prog te 59 c_59 ∧ bodyB Try.prog 59 = true := ⟨conOf_ok eqL_ok (tb_ok ok_18 (tb_ok ok_56 (tb_ok ok_66 (tb_ok ok_64 (tb_ok ok_55 tnil_ok))))) Try.func59 (by kernel_rfl) e_59, by kernel_rfl⟩
/-- (*filespace/wire.writer).stat -/
theorem e_34 (a : PA te [.b 50 (.st 7), .d (.st 1)]) : wire_writer_stat a.1 a.2.1 = evFun Try.prog te eqL (tb 33 c_33 (tb 27 c_27 (tb 59 c_59 tnil))) Try.f34 [.b 50 (.st 7), .d (.st 1)] [] (.p : Pl) a := by kernel_rfl
def c_34 : Con te := conOf te [.b 50 (.st 7), .d (.st 1)] [] false fun a => wire_writer_stat a.1 a.2.1
theorem ok_34 : Con.OK Try.prog te 34 c_34 ∧ bodyB Try.prog 34 = true := ⟨conOf_ok eqL_ok (tb_ok ok_33 (tb_ok ok_27 (tb_ok ok_59 tnil_ok))) Try.func34 (by kernel_rfl) e_34, by kernel_rfl⟩
/-- (*filespace/wire.writer).field -/
theorem e_17 (a : PA te [.b 50 (.st 7), .d (.st 2), .d (.int .u8)]) : wire_writer_field a.1 a.2.1 a.2.2.1 = evFun Try.prog te eqL (tb 34 c_34 (tb 33 c_33 (tb 32 c_32 (tb 31 c_31 (tb 30 c_30 (tb 29 c_29 (tb 28 c_28 (tb 15 c_15 tnil)))))))) Try.f17 [.b 50 (.st 7), .d (.st 2), .d (.int .u8)] [] (.p : Pl) a := by kernel_rfl
def c_17 : Con te := conOf te [.b 50 (.st 7), .d (.st 2), .d (.int .u8)] [] false fun a => wire_writer_field a.1 a.2.1 a.2.2.1
theorem ok_17 : Con.OK Try.prog te 17 c_17 ∧ bodyB Try.prog 17 = true := ⟨conOf_ok eqL_ok (tb_ok ok_34 (tb_ok ok_33 (tb_ok ok_32 (tb_ok ok_31 (tb_ok ok_30 (tb_ok ok_29 (tb_ok ok_28 (tb_ok ok_15 tnil_ok)))))))) Try.func17 (by kernel_rfl) e_17, by kernel_rfl⟩
/-- filespace/wire.Put -/
theorem e_8 (a : PA te [.d (.st 2)]) : wire_Put a.1 = evFun Try.prog te eqL (tb 18 c_18 (tb 17 c_17 (tb 16 c_16 (tb 15 c_15 (tb 14 c_14 tnil))))) Try.f8 [.d (.st 2)] [(.str, []), (.int .i64, [])] (.s .p (.s .p (.s .p (.s .p (.s .p (.s .p (.s (.s .p (.lp ⟨[(30, .d (.int .i64))], [(10, true, .box 50 (.st 7))], [1, 5, 6, 29], [0], [], 32⟩ ⟨[], [(10, true, .box 50 (.st 7))], [5], [], [], 32⟩ false (.s .p (.s .p (.s (.s .p (.dr [0, 0, 0, 0, 0, 2] [] false [])) .p))))) (.s (.s .p (.s (.s (.dr [0, 0, 0, 0, 0, 0] [] false []) .p) .p)) .p)))))))) a := by kernel_rfl
def c_8 : Con te := conOf te [.d (.st 2)] [(.str, []), (.int .i64, [])] false fun a => wire_Put a.1
theorem ok_8 : Con.OK Try.prog te 8 c_8 ∧ bodyB Try.prog 8 = true := ⟨conOf_ok eqL_ok (tb_ok ok_18 (tb_ok ok_17 (tb_ok ok_16 (tb_ok ok_15 (tb_ok ok_14 tnil_ok))))) Try.func8 (by kernel_rfl) e_8, by kernel_rfl⟩
/-- filespace/octet.Get -/
theorem e_19 (a : PA te [.d .str, .d (.int .i64), .d (.int .i64)]) : octet_Get a.1 a.2.1 a.2.2.1 = evFun Try.prog te eqL tnil Try.f19 [.d .str, .d (.int .i64), .d (.int .i64)] [(.int .i64, []), (.int .i64, []), (.int .i64, [])] (.s .p (.s .p (.s .p (.s .p (.s (.s .p (.lp ⟨[(9, .d (.int .u64)), (10, .d (.int .i64))], [], [0, 1, 2], [], [], 11018⟩ ⟨[(9, .d (.int .u64))], [], [1, 2], [], [], 11018⟩ false .p)) .p))))) a := by kernel_rfl
def c_19 : Con te := conOf te [.d .str, .d (.int .i64), .d (.int .i64)] [(.int .i64, []), (.int .i64, []), (.int .i64, [])] false fun a => octet_Get a.1 a.2.1 a.2.2.1
theorem ok_19 : Con.OK Try.prog te 19 c_19 ∧ bodyB Try.prog 19 = true := ⟨conOf_ok eqL_ok tnil_ok Try.func19 (by kernel_rfl) e_19, by kernel_rfl⟩
/-- (*filespace/wire.reader).number -/
theorem e_20 (a : PA te [.b 59 (.st 8), .d (.int .i64)]) : wire_reader_number a.1 a.2.1 = evFun Try.prog te eqL (tb 19 c_19 tnil) Try.f20 [.b 59 (.st 8), .d (.int .i64)] [(.int .i64, [])] (.s .p (.s .p (.s (.dr [0, 0, 0, 0, 0, 0, 0, 0, 0, 0, 0, 0, 0, 0, 0, 0, 0] [] false []) .p))) a := by kernel_rfl
def c_20 : Con te := conOf te [.b 59 (.st 8), .d (.int .i64)] [(.int .i64, [])] false fun a => wire_reader_number a.1 a.2.1
theorem ok_20 : Con.OK Try.prog te 20 c_20 ∧ bodyB Try.prog 20 = true := ⟨conOf_ok eqL_ok (tb_ok ok_19 tnil_ok) Try.func20 (by kernel_rfl) e_20, by kernel_rfl⟩
/-- filespace/octet.GetText -/
theorem e_60 (a : PA te [.d .str, .d (.int .i64)]) : octet_GetText a.1 a.2.1 = evFun Try.prog te eqL (tb 19 c_19 tnil) Try.f60 [.d .str, .d (.int .i64)] [(.str, []), (.int .i64, []), (.int .i64, [])] (.p : Pl) a := by kernel_rfl
def c_60 : Con te := conOf te [.d .str, .d (.int .i64)] [(.str, []), (.int .i64, []), (.int .i64, [])] false fun a => octet_GetText a.1 a.2.1
theorem ok_60 : Con.OK Try.prog te 60 c_60 ∧ bodyB Try.prog 60 = true := ⟨conOf_ok eqL_ok (tb_ok ok_19 tnil_ok) Try.func60 (by kernel_rfl) e_60, by kernel_rfl⟩
/-- (*filespace/wire.reader).text -/
theorem e_35 (a : PA te [.b 59 (.st 8)]) : wire_reader_text a.1 = evFun Try.prog te eqL (tb 60 c_60 tnil) Try.f35 [.b 59 (.st 8)] [(.str, [])] (.s .p (.s .p (.s (.dr [0, 0, 0, 0, 0, 0, 0, 0, 0, 0, 0, 0, 0, 0, 0, 0] [] false []) .p))) a := by kernel_rfl
def c_35 : Con te := conOf te [.b 59 (.st 8)] [(.str, [])] false fun a => wire_reader_text a.1
theorem ok_35 : Con.OK Try.prog te 35 c_35 ∧ bodyB Try.prog 35 = true := ⟨conOf_ok eqL_ok (tb_ok ok_60 tnil_ok) Try.func35 (by kernel_rfl) e_35, by kernel_rfl⟩
/-- (*filespace/wire.reader).qid -/
theorem e_36 (a : PA te [.b 59 (.st 8)]) : wire_reader_qid a.1 = evFun Try.prog te eqL (tb 20 c_20 tnil) Try.f36 [.b 59 (.st 8)] [(.st 0, [])] (.p : Pl) a := by kernel_rfl
def c_36 : Con te := conOf te [.b 59 (.st 8)] [(.st 0, [])] false fun a => wire_reader_qid a.1
theorem ok_36 : Con.OK Try.prog te 36 c_36 ∧ bodyB Try.prog 36 = true := ⟨conOf_ok eqL_ok (tb_ok ok_20 tnil_ok) Try.func36 (by kernel_rfl) e_36, by kernel_rfl⟩
/-- filespace/fault.Find -/
theorem e_61 (a : PA te [.d .str]) : fault_Find a.1 = evFun Try.prog te eqL (tb 30 c_30 tnil) Try.f61 [.d .str] [(.int .i64, []), (.bool, [])] (.s .p (.s .p (.s (.s .p (.lp ⟨[(4, .d (.int .i64))], [], [0], [], [], 5⟩ ⟨[], [], [], [], [], 5⟩ true .p)) .p))) a := by kernel_rfl
def c_61 : Con te := conOf te [.d .str] [(.int .i64, []), (.bool, [])] false fun a => fault_Find a.1
theorem ok_61 : Con.OK Try.prog te 61 c_61 ∧ bodyB Try.prog 61 = true := ⟨conOf_ok eqL_ok (tb_ok ok_30 tnil_ok) Try.func61 (by kernel_rfl) e_61, by kernel_rfl⟩
/-- (*filespace/wire.reader).fault -/
theorem e_37 (a : PA te [.b 59 (.st 8)]) : wire_reader_fault a.1 = evFun Try.prog te eqL (tb 61 c_61 (tb 35 c_35 tnil)) Try.f37 [.b 59 (.st 8)] [(.int .i64, [])] (.p : Pl) a := by kernel_rfl
def c_37 : Con te := conOf te [.b 59 (.st 8)] [(.int .i64, [])] false fun a => wire_reader_fault a.1
theorem ok_37 : Con.OK Try.prog te 37 c_37 ∧ bodyB Try.prog 37 = true := ⟨conOf_ok eqL_ok (tb_ok ok_61 (tb_ok ok_35 tnil_ok)) Try.func37 (by kernel_rfl) e_37, by kernel_rfl⟩
/-- (*filespace/wire.reader).names -/
theorem e_38 (a : PA te [.b 59 (.st 8)]) : wire_reader_names a.1 = evFun Try.prog te eqL (tb 35 c_35 (tb 20 c_20 tnil)) Try.f38 [.b 59 (.st 8)] [(.sl .str, [some 9])] (.s .p (.s .p (.s (.s .p (.lp ⟨[(3, .one (.own 8)), (4, .d (.int .i64))], [(0, true, .box 59 (.st 8)), (8, false, .row 9 .str [])], [0], [], [], 9⟩ ⟨[(3, .one (.own 8))], [(8, false, .row 9 .str []), (0, true, .box 59 (.st 8))], [], [], [], 9⟩ false .p)) .p))) a := by kernel_rfl
def c_38 : Con te := conOf te [.b 59 (.st 8)] [(.sl .str, [some 9])] false fun a => wire_reader_names a.1
theorem ok_38 : Con.OK Try.prog te 38 c_38 ∧ bodyB Try.prog 38 = true := ⟨conOf_ok eqL_ok (tb_ok ok_35 (tb_ok ok_20 tnil_ok)) Try.func38 (by kernel_rfl) e_38, by kernel_rfl⟩
/-- (*filespace/wire.reader).qids -/
theorem e_39 (a : PA te [.b 59 (.st 8)]) : wire_reader_qids a.1 = evFun Try.prog te eqL (tb 36 c_36 (tb 20 c_20 tnil)) Try.f39 [.b 59 (.st 8)] [(.sl (.st 0), [some 25])] (.s .p (.s .p (.s (.s .p (.lp ⟨[(3, .one (.own 8)), (4, .d (.int .i64))], [(0, true, .box 59 (.st 8)), (8, false, .row 25 (.st 0) [])], [0], [], [], 9⟩ ⟨[(3, .one (.own 8))], [(8, false, .row 25 (.st 0) []), (0, true, .box 59 (.st 8))], [], [], [], 9⟩ false .p)) .p))) a := by kernel_rfl
def c_39 : Con te := conOf te [.b 59 (.st 8)] [(.sl (.st 0), [some 25])] false fun a => wire_reader_qids a.1
theorem ok_39 : Con.OK Try.prog te 39 c_39 ∧ bodyB Try.prog 39 = true := ⟨conOf_ok eqL_ok (tb_ok ok_36 (tb_ok ok_20 tnil_ok)) Try.func39 (by kernel_rfl) e_39, by kernel_rfl⟩
/-- (*filespace/wire.reader).data -/
theorem e_40 (a : PA te [.b 59 (.st 8), .d (.int .i64)]) : wire_reader_data a.1 a.2.1 = evFun Try.prog te eqL (tb 20 c_20 tnil) Try.f40 [.b 59 (.st 8), .d (.int .i64)] [(.str, [])] (.s .p (.s .p (.s (.s (.dr [0, 0, 0, 0, 0, 0, 0, 0, 0, 0, 0, 0, 0, 0, 0, 0, 0, 0, 0] [] false []) .p) (.s .p (.s (.dr [0, 0, 0, 0, 0, 0, 0, 0, 0, 0, 0, 0, 0, 0, 0, 0] [] false []) .p))))) a := by kernel_rfl
def c_40 : Con te := conOf te [.b 59 (.st 8), .d (.int .i64)] [(.str, [])] false fun a => wire_reader_data a.1 a.2.1
theorem ok_40 : Con.OK Try.prog te 40 c_40 ∧ bodyB Try.prog 40 = true := ⟨conOf_ok eqL_ok (tb_ok ok_20 tnil_ok) Try.func40 (by kernel_rfl) e_40, by kernel_rfl⟩
/-- (*filespace/stat.reader).number -/
theorem e_69 (a : PA te [.b 115 (.st 9), .d (.int .i64)]) : stat_reader_number a.1 a.2.1 = evFun Try.prog te eqL (tb 19 c_19 (tb 77 con_strings_Count tnil)) Try.f69 [.b 115 (.st 9), .d (.int .i64)] [(.int .i64, [])] (.s .p (.s (.s (.dr [0, 0, 0, 0, 0, 0, 0, 0, 0, 0, 0, 0, 0, 0, 0, 0, 0, 0, 0] [] false []) .p) (.s (.dr [0, 0, 0, 0, 0, 0, 0, 0, 0, 0, 0, 0, 0, 0, 0, 0] [] false []) .p))) a := by kernel_rfl
def c_69 : Con te := conOf te [.b 115 (.st 9), .d (.int .i64)] [(.int .i64, [])] false fun a => stat_reader_number a.1 a.2.1
theorem ok_69 : Con.OK Try.prog te 69 c_69 ∧ bodyB Try.prog 69 = true := ⟨conOf_ok eqL_ok (tb_ok ok_19 (tb_ok ok_con_strings_Count tnil_ok)) Try.func69 (by kernel_rfl) e_69, by kernel_rfl⟩
/-- (*filespace/stat.reader).text -/
theorem e_70 (a : PA te [.b 115 (.st 9)]) : stat_reader_text a.1 = evFun Try.prog te eqL (tb 60 c_60 tnil) Try.f70 [.b 115 (.st 9)] [(.str, [])] (.s .p (.s .p (.s (.dr [0, 0, 0, 0, 0, 0, 0, 0, 0, 0, 0, 0, 0, 0, 0, 0] [] false []) .p))) a := by kernel_rfl
def c_70 : Con te := conOf te [.b 115 (.st 9)] [(.str, [])] false fun a => stat_reader_text a.1
theorem ok_70 : Con.OK Try.prog te 70 c_70 ∧ bodyB Try.prog 70 = true := ⟨conOf_ok eqL_ok (tb_ok ok_60 tnil_ok) Try.func70 (by kernel_rfl) e_70, by kernel_rfl⟩
/-- (*filespace/stat.reader).read -/
theorem e_67 (a : PA te [.b 115 (.st 9)]) : stat_reader_read a.1 = evFun Try.prog te eqL (tb 70 c_70 (tb 69 c_69 tnil)) Try.f67 [.b 115 (.st 9)] [(.st 1, [])] (.p : Pl) a := by kernel_rfl
def c_67 : Con te := conOf te [.b 115 (.st 9)] [(.st 1, [])] false fun a => stat_reader_read a.1
theorem ok_67 : Con.OK Try.prog te 67 c_67 ∧ bodyB Try.prog 67 = true := ⟨conOf_ok eqL_ok (tb_ok ok_70 (tb_ok ok_69 tnil_ok)) Try.func67 (by kernel_rfl) e_67, by kernel_rfl⟩
/-- filespace/stat.Get -/
theorem e_62 (a : PA te [.d .str, .d (.int .i64)]) : stat_Get a.1 a.2.1 = evFun Try.prog te eqL (tb 55 c_55 (tb 67 c_67 (tb 19 c_19 tnil))) Try.f62 [.d .str, .d (.int .i64)] [(.st 1, []), (.int .i64, []), (.int .i64, [])] (.p : Pl) a := by kernel_rfl
def c_62 : Con te := conOf te [.d .str, .d (.int .i64)] [(.st 1, []), (.int .i64, []), (.int .i64, [])] false fun a => stat_Get a.1 a.2.1
theorem ok_62 : Con.OK Try.prog te 62 c_62 ∧ bodyB Try.prog 62 = true := ⟨conOf_ok eqL_ok (tb_ok ok_55 (tb_ok ok_67 (tb_ok ok_19 tnil_ok))) Try.func62 (by kernel_rfl) e_62, by kernel_rfl⟩
/-- (*filespace/wire.reader).stat -/
theorem e_41 (a : PA te [.b 59 (.st 8)]) : wire_reader_stat a.1 = evFun Try.prog te eqL (tb 62 c_62 (tb 40 c_40 tnil)) Try.f41 [.b 59 (.st 8)] [(.st 1, [])] (.p : Pl) a := by kernel_rfl
def c_41 : Con te := conOf te [.b 59 (.st 8)] [(.st 1, [])] false fun a => wire_reader_stat a.1
theorem ok_41 : Con.OK Try.prog te 41 c_41 ∧ bodyB Try.prog 41 = true := ⟨conOf_ok eqL_ok (tb_ok ok_62 (tb_ok ok_40 tnil_ok)) Try.func41 (by kernel_rfl) e_41, by kernel_rfl⟩
/-- (*filespace/wire.reader).field -/
theorem e_21 (a : PA te [.b 59 (.st 8), .b 30 (.st 2), .d (.int .u8)]) : wire_reader_field a.1 a.2.1 a.2.2.1 = evFun Try.prog te eqL (tb 41 c_41 (tb 40 c_40 (tb 39 c_39 (tb 38 c_38 (tb 37 c_37 (tb 36 c_36 (tb 35 c_35 (tb 20 c_20 tnil)))))))) Try.f21 [.b 59 (.st 8), .b 30 (.st 2), .d (.int .u8)] [] (.p : Pl) a := by kernel_rfl
def c_21 : Con te := conOf te [.b 59 (.st 8), .b 30 (.st 2), .d (.int .u8)] [] true fun a => wire_reader_field a.1 a.2.1 a.2.2.1
theorem ok_21 : Con.OK Try.prog te 21 c_21 ∧ bodyB Try.prog 21 = true := ⟨conOf_ok eqL_ok (tb_ok ok_41 (tb_ok ok_40 (tb_ok ok_39 (tb_ok ok_38 (tb_ok ok_37 (tb_ok ok_36 (tb_ok ok_35 (tb_ok ok_20 tnil_ok)))))))) Try.func21 (by kernel_rfl) e_21, by kernel_rfl⟩
/-- filespace/wire.Get -/
theorem e_9 (a : PA te [.d .str, .d (.int .i64)]) : wire_Get a.1 a.2.1 = evFun Try.prog te eqL (tb 14 c_14 (tb 22 c_22 (tb 21 c_21 (tb 16 c_16 (tb 20 c_20 (tb 19 c_19 tnil)))))) Try.f9 [.d .str, .d (.int .i64)] [(.st 2, []), (.int .i64, []), (.int .i64, [])] (.s .p (.s .p (.s .p (.s .p (.s .p (.s .p (.s (.s .p (.lp ⟨[(61, .d (.int .i64))], [(37, true, .box 59 (.st 8)), (49, true, .box 30 (.st 2))], [1, 4, 7, 10, 11, 12, 60], [0], [], 60⟩ ⟨[], [(37, true, .box 59 (.st 8)), (49, true, .box 30 (.st 2))], [1, 4, 7, 10, 11], [0], [], 60⟩ false .p)) .p))))))) a := by kernel_rfl
def c_9 : Con te := conOf te [.d .str, .d (.int .i64)] [(.st 2, []), (.int .i64, []), (.int .i64, [])] true fun a => wire_Get a.1 a.2.1
theorem ok_9 : Con.OK Try.prog te 9 c_9 ∧ bodyB Try.prog 9 = true := ⟨conOf_ok eqL_ok (tb_ok ok_14 (tb_ok ok_22 (tb_ok ok_21 (tb_ok ok_16 (tb_ok ok_20 (tb_ok ok_19 tnil_ok)))))) Try.func9 (by kernel_rfl) e_9, by kernel_rfl⟩
/-- filespace/wire.Split -/
theorem e_11 (a : PA te [.d .str, .d (.int .i64)]) : wire_Split a.1 a.2.1 = evFun Try.prog te eqL (tb 9 c_9 (tb 19 c_19 tnil)) Try.f11 [.d .str, .d (.int .i64)] [(.sl (.st 2), []), (.str, []), (.int .i64, [])] (.s .p (.s .p (.j ⟨[(7, .d (.int .i64))], [], [0], [], [], 5⟩ false .p (.s .p (.s (.lp ⟨[(0, .d .str), (8, .one (.own 6))], [(6, false, .row 30 (.st 2) [])], [7], [], [], 7⟩ ⟨[(0, .d .str), (8, .one (.own 6))], [(6, false, .row 30 (.st 2) [])], [], [], [], 7⟩ true (.s .p (.s .p (.s .p (.s .p (.s .p (.s .p (.dr [0, 0, 1, 2, 4, 4, 4, 4, 4] [4, 5, 6] false [])))))))) .p))))) a := by kernel_rfl
def c_11 : Con te := conOf te [.d .str, .d (.int .i64)] [(.sl (.st 2), []), (.str, []), (.int .i64, [])] true fun a => wire_Split a.1 a.2.1
theorem ok_11 : Con.OK Try.prog te 11 c_11 ∧ bodyB Try.prog 11 = true := ⟨conOf_ok eqL_ok (tb_ok ok_9 (tb_ok ok_19 tnil_ok)) Try.func11 (by kernel_rfl) e_11, by kernel_rfl⟩
/-- filespace/wire.Size -/
theorem e_13 (a : PA te [.d (.st 2)]) : wire_Size a.1 = evFun Try.prog te eqL (tb 8 c_8 tnil) Try.f13 [.d (.st 2)] [(.int .i64, [])] (.p : Pl) a := by kernel_rfl
def c_13 : Con te := conOf te [.d (.st 2)] [(.int .i64, [])] false fun a => wire_Size a.1
theorem ok_13 : Con.OK Try.prog te 13 c_13 ∧ bodyB Try.prog 13 = true := ⟨conOf_ok eqL_ok (tb_ok ok_8 tnil_ok) Try.func13 (by kernel_rfl) e_13, by kernel_rfl⟩
/-- filespace/filespaceref08.Same -/
theorem e_10 (a : PA te [.d (.st 2), .d (.st 2)]) : ref08_Same a.1 a.2.1 = evFun Try.prog te eqL tnil Try.f10 [.d (.st 2), .d (.st 2)] [(.bool, [])] (.s .p (.s .p (.s (.s .p (.lp ⟨[(28, .d (.int .i64))], [], [2, 3, 27], [0, 2], [], 8017⟩ ⟨[], [], [2, 3], [0, 2], [], 8017⟩ true (.s .p (.s .p (.s (.s .p (.s (.dr [0, 0, 0, 0, 0, 0, 0, 0, 0, 0, 0] [] false []) .p)) .p))))) (.s (.s .p (.lp ⟨[(46, .d (.int .i64))], [], [2, 3, 45], [0, 2], [], 8021⟩ ⟨[], [], [2, 3], [0, 2], [], 8021⟩ true (.s .p (.s .p (.s (.s .p (.s (.dr [0, 0, 0, 0, 0, 0, 0, 0, 0, 0, 0] [] false []) .p)) .p))))) .p)))) a := by kernel_rfl
def c_10 : Con te := conOf te [.d (.st 2), .d (.st 2)] [(.bool, [])] false fun a => ref08_Same a.1 a.2.1
theorem ok_10 : Con.OK Try.prog te 10 c_10 ∧ bodyB Try.prog 10 = true := ⟨conOf_ok eqL_ok tnil_ok Try.func10 (by kernel_rfl) e_10, by kernel_rfl⟩
/-- filespace/filespacelaw09.alive -/
theorem e_7 (a : PA te []) : law09_alive = evFun Try.prog te eqL (tb 10 c_10 (tb 13 c_13 (tb 11 c_11 (tb 9 c_9 (tb 8 c_8 tnil))))) Try.f7 [] [(.bool, [])] (.s .p (.s .p (.s .p (.s .p (.s .p (.s .p (.s .p (.s (.dr [0, 0, 0, 0, 0, 0, 0, 0, 0, 0, 0, 0, 0, 0, 0, 0, 0, 0, 0, 0, 0, 0, 0, 0, 0, 0, 0, 0, 0, 0, 0, 0, 0, 0, 0, 0, 0, 0, 0, 0, 0, 0, 0, 0, 0, 0, 0, 0, 0, 0, 0, 0, 0, 0] [] false []) .p)))))))) a := by kernel_rfl
def c_7 : Con te := conOf te [] [(.bool, [])] false fun _ => law09_alive
theorem ok_7 : Con.OK Try.prog te 7 c_7 ∧ bodyB Try.prog 7 = true := ⟨conOf_ok eqL_ok (tb_ok ok_10 (tb_ok ok_13 (tb_ok ok_11 (tb_ok ok_9 (tb_ok ok_8 tnil_ok))))) Try.func7 (by kernel_rfl) e_7, by kernel_rfl⟩
/-- filespace/filespacelaw09.WireBack -/
theorem e_3 (a : PA te [.d (.st 2), .d (.st 3)]) : law09_WireBack a.1 a.2.1 = evFun Try.prog te eqL (tb 10 c_10 (tb 9 c_9 (tb 8 c_8 (tb 7 c_7 (tb 6 c_6 tnil))))) Try.f3 [.d (.st 2), .d (.st 3)] [(.bool, [])] (.p : Pl) a := by kernel_rfl
def c_3 : Con te := conOf te [.d (.st 2), .d (.st 3)] [(.bool, [])] false fun a => law09_WireBack a.1 a.2.1
theorem ok_3 : Con.OK Try.prog te 3 c_3 ∧ bodyB Try.prog 3 = true := ⟨conOf_ok eqL_ok (tb_ok ok_10 (tb_ok ok_9 (tb_ok ok_8 (tb_ok ok_7 (tb_ok ok_6 tnil_ok))))) Try.func3 (by kernel_rfl) e_3, by kernel_rfl⟩
/-- filespace/filespacelaw09.WireOnly -/
theorem e_4 (a : PA te [.d .str, .d (.int .i64)]) : law09_WireOnly a.1 a.2.1 = evFun Try.prog te eqL (tb 8 c_8 (tb 9 c_9 (tb 7 c_7 tnil))) Try.f4 [.d .str, .d (.int .i64)] [(.bool, [])] (.p : Pl) a := by kernel_rfl
def c_4 : Con te := conOf te [.d .str, .d (.int .i64)] [(.bool, [])] false fun a => law09_WireOnly a.1 a.2.1
theorem ok_4 : Con.OK Try.prog te 4 c_4 ∧ bodyB Try.prog 4 = true := ⟨conOf_ok eqL_ok (tb_ok ok_8 (tb_ok ok_9 (tb_ok ok_7 tnil_ok))) Try.func4 (by kernel_rfl) e_4, by kernel_rfl⟩
/-- filespace/filespacelaw09.same -/
theorem e_12 (a : PA te [.d (.sl (.st 2)), .d (.sl (.st 2))]) : law09_same a.1 a.2.1 = evFun Try.prog te eqL (tb 10 c_10 tnil) Try.f12 [.d (.sl (.st 2)), .d (.sl (.st 2))] [(.bool, [])] (.s .p (.s .p (.s (.s .p (.lp ⟨[(13, .d (.int .i64))], [], [0, 1, 12], [], [], 9⟩ ⟨[], [], [], [], [], 9⟩ true (.s .p (.s .p (.s (.s .p (.s (.dr [0, 0, 0, 0, 0, 0, 0, 0, 0, 0] [] false []) .p)) .p))))) .p))) a := by kernel_rfl
def c_12 : Con te := conOf te [.d (.sl (.st 2)), .d (.sl (.st 2))] [(.bool, [])] false fun a => law09_same a.1 a.2.1
theorem ok_12 : Con.OK Try.prog te 12 c_12 ∧ bodyB Try.prog 12 = true := ⟨conOf_ok eqL_ok (tb_ok ok_10 tnil_ok) Try.func12 (by kernel_rfl) e_12, by kernel_rfl⟩
/-- filespace/filespacelaw09.WirePieces -/
theorem e_5 (a : PA te [.d .str, .d (.int .i64), .d (.int .i64)]) : law09_WirePieces a.1 a.2.1 a.2.2.1 = evFun Try.prog te eqL (tb 12 c_12 (tb 11 c_11 (tb 7 c_7 tnil))) Try.f5 [.d .str, .d (.int .i64), .d (.int .i64)] [(.bool, [])] (.p : Pl) a := by kernel_rfl
def c_5 : Con te := conOf te [.d .str, .d (.int .i64), .d (.int .i64)] [(.bool, [])] false fun a => law09_WirePieces a.1 a.2.1 a.2.2.1
theorem ok_5 : Con.OK Try.prog te 5 c_5 ∧ bodyB Try.prog 5 = true := ⟨conOf_ok eqL_ok (tb_ok ok_12 (tb_ok ok_11 (tb_ok ok_7 tnil_ok))) Try.func5 (by kernel_rfl) e_5, by kernel_rfl⟩
end Go.Proofs.Ytfebkheipgdnnaa
