/-
 What the statements of this seat hang on, part 6: K1 K2 Num Qa Qb Qc Qd Qe Qf Qg Qh Qi Qj Qk Ql.
-/
import Derived.Test.YtolgkhjkdadhiaaGreatYA5
import Derived.Laws.BitsLemmas
import Derived.KernelRfl
namespace Go.Proofs.YtolgkhjkdadhiaaGreat
open Go.Rt Go.RowKit
noncomputable section
def c_17 : Con te := conOf te [.d (.st 2)] [(.bool, [])] false fun a => law38_light a.1
theorem ok_17 : OKF 17 c_17 := ⟨conOf_ok eqL_ok tnil_ok Tryz.func17 (by kernel_rfl) (pl := .s .p (.s .p (.s (.s .p (.lp ⟨[(54, .d (.int .i64))], [], [1, 53], [0], [], 35018⟩ ⟨[], [], [1], [0], [], 35018⟩ true .p)) .p))) fun _ => by kernel_rfl, by kernel_rfl⟩
def c_10 : Con te := conOf te [.d (.st 4)] [(.bool, [])] false fun a => law38_small a.1
theorem ok_10 : OKF 10 c_10 := ⟨conOf_ok eqL_ok (tb_ok ok_17 tnil_ok) Tryz.func10 (by kernel_rfl) (pl := .s .p (.s .p (.s (.s .p (.lp ⟨[(29, .d (.int .i64))], [], [1, 28], [0], [], 15014⟩ ⟨[], [], [], [], [], 15014⟩ true .p)) .p))) fun _ => by kernel_rfl, by kernel_rfl⟩
def c_15 : Con te := conOf te [] [(.st 4, [])] true fun _ => rpc_New
theorem ok_15 : OKF 15 c_15 := ⟨conOf_ok eqL_ok tnil_ok Tryz.func15 (by kernel_rfl) (pl := .p) fun _ => by kernel_rfl, by kernel_rfl⟩
def c_74 : Con te := conOf te [.d (.sl .str)] [(.sl .str, [some 9])] false fun a => slices_Clone_stringstring a.1
theorem ok_74 : OKF 74 c_74 := ⟨conOf_ok eqL_ok tnil_ok Tryz.func74 (by kernel_rfl) (pl := .p) fun _ => by kernel_rfl, by kernel_rfl⟩
def c_75 : Con te := conOf te [.d (.sl (.st 0))] [(.sl (.st 0), [some 33])] false fun a => slices_Clone_apiQidapiQid a.1
theorem ok_75 : OKF 75 c_75 := ⟨conOf_ok eqL_ok tnil_ok Tryz.func75 (by kernel_rfl) (pl := .p) fun _ => by kernel_rfl, by kernel_rfl⟩
def c_42 : Con te := conOf te [.d (.st 2)] [(.st 2, [])] true fun a => rpc_clone a.1
theorem ok_42 : OKF 42 c_42 := ⟨conOf_ok eqL_ok (tb_ok ok_75 (tb_ok ok_74 tnil_ok)) Tryz.func42 (by kernel_rfl) (pl := .p) fun _ => by kernel_rfl, by kernel_rfl⟩
def c_70 : Con te := conOf te [.d (.sl (.int .i64))] [(.sl (.int .i64), [some 3])] false fun a => slices_Clone_intint a.1
theorem ok_70 : OKF 70 c_70 := ⟨conOf_ok eqL_ok tnil_ok Tryz.func70 (by kernel_rfl) (pl := .p) fun _ => by kernel_rfl, by kernel_rfl⟩
def c_39 : Con te := conOf te [.d (.st 4)] [(.st 4, [none, none, none, some 3, some 63])] true fun a => rpc_own a.1
theorem ok_39 : OKF 39 c_39 := ⟨conOf_ok eqL_ok (tb_ok ok_70 (tb_ok ok_42 tnil_ok)) Tryz.func39 (by kernel_rfl) (pl := .s .p (.s .p (.s (.s .p (.lp ⟨[(3, .one (.own 14)), (13, .d (.int .i64))], [(14, false, .row 63 (.st 3) [])], [1, 2, 11, 12], [0, 2], [], 15⟩ ⟨[(3, .one (.own 14))], [(14, false, .row 63 (.st 3) [])], [1, 2], [0, 2], [], 15⟩ false (.s .p (.s .p (.s (.s .p (.dr [0, 0, 0, 1, 0, 0, 4, 1, 2, 4] [4, 5] false [])) .p))))) .p))) fun _ => by kernel_rfl, by kernel_rfl⟩
def c_71 : Con te := conOf te [.d (.int .i64)] [(.str, [])] false fun a => msg_Name a.1
theorem ok_71 : OKF 71 c_71 := ⟨conOf_ok eqL_ok tnil_ok Tryz.func71 (by kernel_rfl) (pl := .p) fun _ => by kernel_rfl, by kernel_rfl⟩
def c_40 : Con te := conOf te [.d (.int .i64)] [(.bool, [])] false fun a => msg_Request a.1
theorem ok_40 : OKF 40 c_40 := ⟨conOf_ok eqL_ok (tb_ok ok_71 tnil_ok) Tryz.func40 (by kernel_rfl) (pl := .p) fun _ => by kernel_rfl, by kernel_rfl⟩
def c_76 : Con te := conOf te [.d (.sl (.st 3)), .f1 (.st 3) .bool] [(.int .i64, [])] false fun a => slices_IndexFunc_apiCallapiCall a.1 a.2.1
theorem ok_76 : OKF 76 c_76 := ⟨conOf_ok eqL_ok tnil_ok Tryz.func76 (by kernel_rfl) (pl := .s .p (.s (.s .p (.lp ⟨[(8, .d (.int .i64))], [], [0, 1, 7], [], [], 4⟩ ⟨[], [], [], [], [], 4⟩ true .p)) .p)) fun _ => by kernel_rfl, by kernel_rfl⟩
def c_72 : Con te := conOf te [.d (.sl (.st 3)), .f1 (.st 3) .bool] [(.bool, [])] false fun a => slices_ContainsFunc_apiCallapiCall a.1 a.2.1
theorem ok_72 : OKF 72 c_72 := ⟨conOf_ok eqL_ok (tb_ok ok_76 tnil_ok) Tryz.func72 (by kernel_rfl) (pl := .p) fun _ => by kernel_rfl, by kernel_rfl⟩
def c_73 : Con te := conOf te [.d (.st 3)] [(.bool, [])] false fun a => rpc_hasVersion_1 a.1
theorem ok_73 : OKF 73 c_73 := ⟨conOf_ok eqL_ok tnil_ok Tryz.func73 (by kernel_rfl) (pl := .p) fun _ => by kernel_rfl, by kernel_rfl⟩
def c_41 : Con te := conOf te [.d (.sl (.st 3))] [(.bool, [])] false fun a => rpc_hasVersion a.1
theorem ok_41 : OKF 41 c_41 := ⟨conOf_ok eqL_ok (tb_ok ok_73 (tb_ok ok_72 tnil_ok)) Tryz.func41 (by kernel_rfl) (pl := .p) fun _ => by kernel_rfl, by kernel_rfl⟩
def c_77 : Con te := conOf te [.d (.st 3), .p (.int .i64)] [(.bool, [])] false fun a => rpc_index_1 a.1 a.2.1
theorem ok_77 : OKF 77 c_77 := ⟨conOf_ok eqL_ok tnil_ok Tryz.func77 (by kernel_rfl) (pl := .p) fun _ => by kernel_rfl, by kernel_rfl⟩
def c_48 : Con te := conOf te [.d (.sl (.st 3)), .d (.int .i64)] [(.int .i64, [])] false fun a => rpc_index a.1 a.2.1
theorem ok_48 : OKF 48 c_48 := ⟨conOf_ok eqL_ok (tb_ok ok_77 (tb_ok ok_76 tnil_ok)) Tryz.func48 (by kernel_rfl) (pl := .p) fun _ => by kernel_rfl, by kernel_rfl⟩
def c_107 : Con te := conOf te [.d (.st 3), .p (.int .i64)] [(.bool, [])] false fun a => rpc_flusher_1 a.1 a.2.1
theorem ok_107 : OKF 107 c_107 := ⟨conOf_ok eqL_ok tnil_ok Tryz.func107 (by kernel_rfl) (pl := .p) fun _ => by kernel_rfl, by kernel_rfl⟩
def c_64 : Con te := conOf te [.d (.sl (.st 3)), .d (.int .i64)] [(.int .i64, [])] false fun a => rpc_flusher a.1 a.2.1
theorem ok_64 : OKF 64 c_64 := ⟨conOf_ok eqL_ok (tb_ok ok_107 (tb_ok ok_76 tnil_ok)) Tryz.func64 (by kernel_rfl) (pl := .p) fun _ => by kernel_rfl, by kernel_rfl⟩
def c_43 : Con te := conOf te [.d (.sl (.st 3))] [(.int .i64, [])] false fun a => rpc_free a.1
theorem ok_43 : OKF 43 c_43 := ⟨conOf_ok eqL_ok (tb_ok ok_64 (tb_ok ok_48 tnil_ok)) Tryz.func43 (by kernel_rfl) (pl := .s .p (.s .p (.s (.lp ⟨[(3, .d (.int .i64))], [], [0], [], [], 2⟩ ⟨[(3, .d (.int .i64))], [], [], [], [], 2⟩ false .p) .p))) fun _ => by kernel_rfl, by kernel_rfl⟩
def c_103 : Con te := conOf te [.d (.st 2)] [(.bool, [])] false fun a => msg_tagged a.1
theorem ok_103 : OKF 103 c_103 := ⟨conOf_ok eqL_ok tnil_ok Tryz.func103 (by kernel_rfl) (pl := .s .p (.s (.s .p (.j ⟨[(5, .d .bool)], [], [1, 4], [0], [], 5⟩ false .p .p)) .p)) fun _ => by kernel_rfl, by kernel_rfl⟩
def c_139 : Con te := conOf te [.d (.st 2), .d (.st 2)] [(.st 2, [])] true fun a => msg_rest a.1 a.2.1
theorem ok_139 : OKF 139 c_139 := ⟨conOf_ok eqL_ok tnil_ok Tryz.func139 (by kernel_rfl) (pl := .s .p (.j ⟨[], [(2, true, .box 38 (.st 2))], [3, 4], [4], [], 6⟩ false (.s .p (.s .p (.s (.dr [0, 0, 0, 0, 0, 0, 0, 1, 4, 1, 4, 1] [] true [2]) (.s .p (.s .p (.s .p (.s (.dr [0, 0, 0, 0, 0, 0, 0, 1, 4, 1, 4, 1] [] true [2]) (.s .p (.s .p (.j ⟨[(39, .d .bool)], [], [2, 3, 4, 6], [0, 2, 4], [], 16⟩ false .p (.s .p (.s .p (.s .p (.s .p (.s (.dr [0, 0, 0, 0, 0, 1, 4, 1] [] true [2]) (.s .p (.s (.dr [0, 0, 0, 0, 0, 0, 0, 1, 4, 1, 4, 1] [] true [2]) (.s .p (.s (.dr [0, 0, 0, 0, 0, 0, 0, 1, 4, 1, 4, 1] [] true [2]) .p))))))))))))))))))) .p)) fun _ => by kernel_rfl, by kernel_rfl⟩
def c_105 : Con te := conOf te [.d (.st 2)] [(.st 2, [])] true fun a => msg_only a.1
theorem ok_105 : OKF 105 c_105 := ⟨conOf_ok eqL_ok (tb_ok ok_139 tnil_ok) Tryz.func105 (by kernel_rfl) (pl := .s .p (.s .p (.j ⟨[], [(9, true, .box 38 (.st 2))], [2, 3], [2], [], 13⟩ true (.s .p (.s .p (.s (.dr [0, 0, 0, 0, 0, 1, 4, 1] [] true [9]) (.s .p (.s (.dr [0, 0, 0, 0, 0, 0, 0, 1, 4, 1, 4, 1] [] true [9]) (.s .p (.s (.dr [0, 0, 0, 0, 0, 0, 0, 1, 4, 1, 4, 1] [] true [9]) (.s .p (.s (.dr [0, 0, 0, 0, 0, 0, 0, 0, 0, 1, 4, 1, 4, 1, 4, 1] [] true [9]) (.j ⟨[(58, .d .bool)], [], [1, 2, 3, 10], [0, 2, 9], [], 23⟩ false .p (.s .p (.s .p (.s .p (.s .p (.s .p (.s .p (.s (.dr [0, 0, 0, 0, 0, 0, 0, 1, 4, 1, 4, 1] [] true [9]) (.s .p (.s .p (.s .p (.s (.dr [0, 0, 0, 0, 0, 1, 4, 1] [] true [9]) (.j ⟨[(98, .d .bool)], [], [1, 2, 3, 10], [0, 2, 9], [], 33⟩ false .p (.s (.dr [0, 0, 0, 0, 0, 1, 4, 1] [] true [9]) (.s .p (.s (.dr [0, 0, 0, 0, 0, 0, 0, 0, 0, 1, 4, 1, 4, 1, 4, 1] [] true [9]) .p))))))))))))))))))))))))) .p))) fun _ => by kernel_rfl, by kernel_rfl⟩
def c_135 : Con te := conOf te [.d (.st 2)] [(.st 5, [])] false fun a => msg_Same_1 a.1
theorem ok_135 : OKF 135 c_135 := ⟨conOf_ok eqL_ok tnil_ok Tryz.func135 (by kernel_rfl) (pl := .p) fun _ => by kernel_rfl, by kernel_rfl⟩
def c_136 : Con te := conOf te [.d (.st 2)] [(.st 6, [])] false fun a => msg_Same_2 a.1
theorem ok_136 : OKF 136 c_136 := ⟨conOf_ok eqL_ok tnil_ok Tryz.func136 (by kernel_rfl) (pl := .p) fun _ => by kernel_rfl, by kernel_rfl⟩
def c_137 : Con te := conOf te [.d (.sl .str), .d (.sl .str)] [(.bool, [])] false fun a => slices_Equal_stringstring a.1 a.2.1
theorem ok_137 : OKF 137 c_137 := ⟨conOf_ok eqL_ok tnil_ok Tryz.func137 (by kernel_rfl) (pl := .s .p (.s .p (.s (.s .p (.lp ⟨[(13, .d (.int .i64))], [], [0, 1, 12], [], [], 9⟩ ⟨[], [], [], [], [], 9⟩ true (.s .p (.s .p (.s (.s .p (.s (.dr [0, 0, 0, 0, 0, 0, 0, 0, 0] [] false []) .p)) .p))))) .p))) fun _ => by kernel_rfl, by kernel_rfl⟩
def c_138 : Con te := conOf te [.d (.sl (.st 0)), .d (.sl (.st 0))] [(.bool, [])] false fun a => slices_Equal_apiQidapiQid a.1 a.2.1
theorem ok_138 : OKF 138 c_138 := ⟨conOf_ok eqL_ok tnil_ok Tryz.func138 (by kernel_rfl) (pl := .s .p (.s .p (.s (.s .p (.lp ⟨[(13, .d (.int .i64))], [], [0, 1, 12], [], [], 9⟩ ⟨[], [], [], [], [], 9⟩ true (.s .p (.s .p (.s (.s .p (.s (.dr [0, 0, 0, 0, 0, 0, 0, 0, 0] [] false []) .p)) .p))))) .p))) fun _ => by kernel_rfl, by kernel_rfl⟩
def c_104 : Con te := conOf te [.d (.st 2), .d (.st 2)] [(.bool, [])] false fun a => msg_Same a.1 a.2.1
theorem ok_104 : OKF 104 c_104 := ⟨conOf_ok eqL_ok (tb_ok ok_138 (tb_ok ok_137 (tb_ok ok_136 (tb_ok ok_135 tnil_ok)))) Tryz.func104 (by kernel_rfl) (pl := .s .p (.s .p (.s .p (.s (.dr [0, 0, 0, 0, 0, 0, 0, 0, 0, 0, 0, 0, 0, 0, 0, 0, 0, 0, 0, 0, 0, 0, 0, 0, 0, 0, 0, 0, 0, 0, 0, 0, 0, 0, 0, 0, 0, 0, 0, 0, 0, 0, 0, 0, 0, 0, 0, 0, 0, 0, 0, 0, 0, 0, 0, 0, 0, 0, 0] [] false []) .p)))) fun _ => by kernel_rfl, by kernel_rfl⟩
def c_141 : Con te := conOf te [.d (.int .i64), .d (.int .i64), .d (.int .i64)] [(.int .i64, [])] false fun a => msg_in a.1 a.2.1 a.2.2.1
theorem ok_141 : OKF 141 c_141 := ⟨conOf_ok eqL_ok tnil_ok Tryz.func141 (by kernel_rfl) (pl := .p) fun _ => by kernel_rfl, by kernel_rfl⟩
def c_142 : Con te := conOf te [.d .str, .d (.int .i64)] [(.int .i64, [])] false fun a => msg_short a.1 a.2.1
theorem ok_142 : OKF 142 c_142 := ⟨conOf_ok eqL_ok tnil_ok Tryz.func142 (by kernel_rfl) (pl := .p) fun _ => by kernel_rfl, by kernel_rfl⟩
def c_140 : Con te := conOf te [.d (.sl (.int .i64))] [(.int .i64, [])] false fun a => msg_first a.1
theorem ok_140 : OKF 140 c_140 := ⟨conOf_ok eqL_ok tnil_ok Tryz.func140 (by kernel_rfl) (pl := .s .p (.s (.s .p (.lp ⟨[(7, .d (.int .i64))], [], [5, 6], [], [], 4⟩ ⟨[], [], [], [], [], 4⟩ true .p)) .p)) fun _ => by kernel_rfl, by kernel_rfl⟩
def c_143 : Con te := conOf te [.d (.int .i64)] [(.int .i64, [])] false fun a => msg_fid a.1
theorem ok_143 : OKF 143 c_143 := ⟨conOf_ok eqL_ok (tb_ok ok_141 tnil_ok) Tryz.func143 (by kernel_rfl) (pl := .p) fun _ => by kernel_rfl, by kernel_rfl⟩
def c_144 : Con te := conOf te [.d (.st 0)] [(.int .i64, [])] false fun a => msg_qid a.1
theorem ok_144 : OKF 144 c_144 := ⟨conOf_ok eqL_ok (tb_ok ok_140 (tb_ok ok_141 tnil_ok)) Tryz.func144 (by kernel_rfl) (pl := .s .p (.s .p (.s (.dr [0, 0, 0, 0, 0, 0, 1, 1, 4] [] false []) .p))) fun _ => by kernel_rfl, by kernel_rfl⟩
def c_168 : Con te := conOf te [.d .str] [(.bool, [])] false fun a => path_Valid a.1
theorem ok_168 : OKF 168 c_168 := ⟨conOf_ok eqL_ok tnil_ok Tryz.func168 (by kernel_rfl) (pl := .s .p (.s .p (.s (.s .p (.lp ⟨[(21, .d (.int .i64))], [], [0, 20], [], [], 10009⟩ ⟨[], [], [], [], [], 10009⟩ true .p)) .p))) fun _ => by kernel_rfl, by kernel_rfl⟩
def c_145 : Con te := conOf te [.d (.sl .str)] [(.int .i64, [])] false fun a => msg_names a.1
theorem ok_145 : OKF 145 c_145 := ⟨conOf_ok eqL_ok (tb_ok ok_168 tnil_ok) Tryz.func145 (by kernel_rfl) (pl := .s .p (.s .p (.s (.s .p (.lp ⟨[(10, .d (.int .i64))], [], [8, 9], [], [], 7⟩ ⟨[], [], [], [], [], 7⟩ true .p)) .p))) fun _ => by kernel_rfl, by kernel_rfl⟩
def c_146 : Con te := conOf te [.d (.sl (.st 0))] [(.int .i64, [])] false fun a => msg_qids a.1
theorem ok_146 : OKF 146 c_146 := ⟨conOf_ok eqL_ok (tb_ok ok_144 tnil_ok) Tryz.func146 (by kernel_rfl) (pl := .s .p (.s .p (.s (.s .p (.lp ⟨[(11, .d (.int .i64))], [], [9, 10], [], [], 7⟩ ⟨[], [], [], [], [], 7⟩ true .p)) .p))) fun _ => by kernel_rfl, by kernel_rfl⟩
def c_147 : Con te := conOf te [.d .str] [(.int .i64, [])] false fun a => msg_named a.1
theorem ok_147 : OKF 147 c_147 := ⟨conOf_ok eqL_ok (tb_ok ok_168 tnil_ok) Tryz.func147 (by kernel_rfl) (pl := .p) fun _ => by kernel_rfl, by kernel_rfl⟩
def c_169 : Con te := conOf te [.d (.st 1)] [(.sl (.st 7), [some 182])] false fun a => stat_numbers a.1
theorem ok_169 : OKF 169 c_169 := ⟨conOf_ok eqL_ok tnil_ok Tryz.func169 (by kernel_rfl) (pl := .p) fun _ => by kernel_rfl, by kernel_rfl⟩
def c_170 : Con te := conOf te [.d (.int .i64), .d (.int .i64)] [(.bool, [])] false fun a => stat_within a.1 a.2.1
theorem ok_170 : OKF 170 c_170 := ⟨conOf_ok eqL_ok tnil_ok Tryz.func170 (by kernel_rfl) (pl := .p) fun _ => by kernel_rfl, by kernel_rfl⟩
def c_148 : Con te := conOf te [.d (.st 1)] [(.int .i64, [])] false fun a => stat_Check a.1
theorem ok_148 : OKF 148 c_148 := ⟨conOf_ok eqL_ok (tb_ok ok_168 (tb_ok ok_170 (tb_ok ok_169 tnil_ok))) Tryz.func148 (by kernel_rfl) (pl := .s .p (.s (.s .p (.lp ⟨[(8, .d (.int .i64))], [(4, true, .row 182 (.st 7) [])], [1, 6, 7], [0], [], 8⟩ ⟨[], [], [1], [0], [], 8⟩ true .p)) .p)) fun _ => by kernel_rfl, by kernel_rfl⟩
def c_106 : Con te := conOf te [.d (.st 2)] [(.int .i64, [])] false fun a => msg_fields a.1
theorem ok_106 : OKF 106 c_106 := ⟨conOf_ok eqL_ok (tb_ok ok_148 (tb_ok ok_147 (tb_ok ok_146 (tb_ok ok_145 (tb_ok ok_144 (tb_ok ok_143 (tb_ok ok_140 (tb_ok ok_142 (tb_ok ok_141 tnil_ok))))))))) Tryz.func106 (by kernel_rfl) (pl := .s .p (.s (.s .p (.j ⟨[(5, .d .bool)], [], [1, 4], [0], [], 5⟩ false .p (.s (.s (.dr [0, 0, 0, 0, 0, 0, 0, 0, 0, 1, 1, 4] [] false []) .p) (.s .p (.s (.s (.dr [0, 0, 0, 0, 0, 0, 0, 0, 0, 1, 1, 4] [] false []) .p) (.s .p (.s (.s (.dr [0, 0, 0, 0, 0, 0, 0, 0, 0, 0, 0, 0, 1, 1, 4] [] false []) .p) (.j ⟨[(48, .d .bool)], [], [1, 4], [0], [], 9⟩ false .p (.s (.s (.dr [0, 0, 0, 0, 0, 0, 1, 1, 4] [] false []) .p) (.s .p (.s .p (.s .p (.s .p (.s .p (.s (.s (.dr [0, 0, 0, 0, 0, 0, 0, 0, 0, 1, 1, 4] [] false []) .p) (.s .p (.s .p (.s .p (.s (.s (.dr [0, 0, 0, 0, 0, 0, 1, 1, 4] [] false []) .p) (.s .p (.s (.s (.dr [0, 0, 0, 0, 0, 0, 0, 0, 0, 0, 0, 0, 1, 1, 4] [] false []) .p) (.j ⟨[(115, .d .bool)], [], [1, 4], [0], [], 21⟩ false .p (.s (.s (.dr [0, 0, 0, 0, 0, 0, 0, 0, 0, 0, 0, 0, 1, 1, 4] [] false []) .p) (.j ⟨[(134, .d .bool)], [], [1, 4], [0], [], 21⟩ false .p (.s (.s (.dr [0, 0, 0, 0, 0, 0, 1, 1, 4] [] false []) .p) (.j ⟨[(145, .d .bool)], [], [1, 4], [0], [], 21⟩ false .p (.s (.s (.dr [0, 0, 0, 0, 0, 0, 0, 0, 0, 0, 0, 0, 1, 1, 4] [] false []) .p) .p))))))))))))))))))))))))))) .p)) fun _ => by kernel_rfl, by kernel_rfl⟩
def c_63 : Con te := conOf te [.d (.st 2)] [(.int .i64, [])] false fun a => msg_Check a.1
theorem ok_63 : OKF 63 c_63 := ⟨conOf_ok eqL_ok (tb_ok ok_106 (tb_ok ok_104 (tb_ok ok_105 (tb_ok ok_103 (tb_ok ok_71 tnil_ok))))) Tryz.func63 (by kernel_rfl) (pl := .s .p (.s (.s .p (.s .p (.s .p (.s .p (.s (.dr [0, 1, 0, 1, 4, 4] [2] false []) .p))))) .p)) fun _ => by kernel_rfl, by kernel_rfl⟩
def c_81 : Con te := conOf te [.d (.int .i64), .d (.int .i64)] [(.str, []), (.int .i64, [])] false fun a => octet_Put a.1 a.2.1
theorem ok_81 : OKF 81 c_81 := ⟨conOf_ok eqL_ok tnil_ok Tryz.func81 (by kernel_rfl) (pl := .s .p (.s .p (.s .p (.s .p (.s (.s .p (.lp ⟨[(31, .d (.int .i64))], [(13009, true, .row 5 (.int .u8) [])], [0, 6, 30], [], [], 13015⟩ ⟨[], [(13009, true, .row 5 (.int .u8) [])], [6], [], [], 13015⟩ false .p)) .p))))) fun _ => by kernel_rfl, by kernel_rfl⟩
def c_112 : Con te := conOf te [.b 106 (.st 8), .d .str, .d (.int .i64)] [] false fun a => wire_writer_add a.1 a.2.1 a.2.2.1
theorem ok_112 : OKF 112 c_112 := ⟨conOf_ok eqL_ok tnil_ok Tryz.func112 (by kernel_rfl) (pl := .p) fun _ => by kernel_rfl, by kernel_rfl⟩
def c_78 : Con te := conOf te [.b 106 (.st 8), .d (.int .i64), .d (.int .i64)] [] false fun a => wire_writer_number a.1 a.2.1 a.2.2.1
theorem ok_78 : OKF 78 c_78 := ⟨conOf_ok eqL_ok (tb_ok ok_112 (tb_ok ok_81 tnil_ok)) Tryz.func78 (by kernel_rfl) (pl := .p) fun _ => by kernel_rfl, by kernel_rfl⟩
def c_79 : Con te := conOf te [.d (.int .i64)] [(.str, [])] false fun a => wire_layout a.1
theorem ok_79 : OKF 79 c_79 := ⟨conOf_ok eqL_ok tnil_ok Tryz.func79 (by kernel_rfl) (pl := .s .p (.s (.s .p (.s .p (.s .p (.s .p (.s .p (.s .p (.s .p (.j ⟨[(10, .d .bool)], [], [3], [], [], 8⟩ false .p (.s .p (.s .p (.s .p (.s .p (.s .p (.s .p (.s .p (.s .p (.s .p (.s .p (.s .p (.s .p (.s .p (.j ⟨[(25, .d .bool)], [], [3], [], [], 20⟩ false .p (.s .p (.s .p (.s .p (.s .p (.s .p (.s .p (.s .p (.s .p (.s .p (.s .p (.s .p (.j ⟨[(38, .d .bool)], [], [3], [], [], 30⟩ false .p .p)))))))))))))))))))))))))))))))))) .p)) fun _ => by kernel_rfl, by kernel_rfl⟩
def c_159 : Con te := conOf te [.d .str] [(.str, []), (.int .i64, [])] false fun a => octet_PutText a.1
theorem ok_159 : OKF 159 c_159 := ⟨conOf_ok eqL_ok (tb_ok ok_81 tnil_ok) Tryz.func159 (by kernel_rfl) (pl := .p) fun _ => by kernel_rfl, by kernel_rfl⟩
def c_113 : Con te := conOf te [.b 106 (.st 8), .d .str] [] false fun a => wire_writer_text a.1 a.2.1
theorem ok_113 : OKF 113 c_113 := ⟨conOf_ok eqL_ok (tb_ok ok_112 (tb_ok ok_159 tnil_ok)) Tryz.func113 (by kernel_rfl) (pl := .p) fun _ => by kernel_rfl, by kernel_rfl⟩
def c_114 : Con te := conOf te [.b 106 (.st 8), .d (.st 0)] [] false fun a => wire_writer_qid a.1 a.2.1
theorem ok_114 : OKF 114 c_114 := ⟨conOf_ok eqL_ok (tb_ok ok_78 tnil_ok) Tryz.func114 (by kernel_rfl) (pl := .p) fun _ => by kernel_rfl, by kernel_rfl⟩
def c_160 : Con te := conOf te [.d (.int .i64)] [(.str, [])] false fun a => fault_low a.1
theorem ok_160 : OKF 160 c_160 := ⟨conOf_ok eqL_ok tnil_ok Tryz.func160 (by kernel_rfl) (pl := .p) fun _ => by kernel_rfl, by kernel_rfl⟩
def c_161 : Con te := conOf te [.d (.int .i64)] [(.str, [])] false fun a => fault_high a.1
theorem ok_161 : OKF 161 c_161 := ⟨conOf_ok eqL_ok tnil_ok Tryz.func161 (by kernel_rfl) (pl := .p) fun _ => by kernel_rfl, by kernel_rfl⟩
def c_115 : Con te := conOf te [.d (.int .i64)] [(.str, [])] false fun a => fault_Text a.1
theorem ok_115 : OKF 115 c_115 := ⟨conOf_ok eqL_ok (tb_ok ok_161 (tb_ok ok_160 tnil_ok)) Tryz.func115 (by kernel_rfl) (pl := .p) fun _ => by kernel_rfl, by kernel_rfl⟩
def c_116 : Con te := conOf te [.b 106 (.st 8), .d (.sl .str)] [] false fun a => wire_writer_names a.1 a.2.1
theorem ok_116 : OKF 116 c_116 := ⟨conOf_ok eqL_ok (tb_ok ok_113 (tb_ok ok_78 tnil_ok)) Tryz.func116 (by kernel_rfl) (pl := .s .p (.s .p (.lp ⟨[(12, .d (.int .i64))], [(0, true, .box 106 (.st 8))], [0, 10, 11], [], [], 10⟩ ⟨[], [(0, true, .box 106 (.st 8))], [], [], [], 10⟩ false .p))) fun _ => by kernel_rfl, by kernel_rfl⟩
def c_117 : Con te := conOf te [.b 106 (.st 8), .d (.sl (.st 0))] [] false fun a => wire_writer_qids a.1 a.2.1
theorem ok_117 : OKF 117 c_117 := ⟨conOf_ok eqL_ok (tb_ok ok_114 (tb_ok ok_78 tnil_ok)) Tryz.func117 (by kernel_rfl) (pl := .s .p (.s .p (.lp ⟨[(12, .d (.int .i64))], [(0, true, .box 106 (.st 8))], [0, 10, 11], [], [], 10⟩ ⟨[], [(0, true, .box 106 (.st 8))], [], [], [], 10⟩ false .p))) fun _ => by kernel_rfl, by kernel_rfl⟩
def c_118 : Con te := conOf te [.b 106 (.st 8), .d .str, .d (.int .i64)] [] false fun a => wire_writer_data a.1 a.2.1 a.2.2.1
theorem ok_118 : OKF 118 c_118 := ⟨conOf_ok eqL_ok (tb_ok ok_112 (tb_ok ok_78 tnil_ok)) Tryz.func118 (by kernel_rfl) (pl := .p) fun _ => by kernel_rfl, by kernel_rfl⟩
def c_178 : Con te := conOf te [.d (.st 7)] [(.str, [])] false fun a => stat_put a.1
theorem ok_178 : OKF 178 c_178 := ⟨conOf_ok eqL_ok (tb_ok ok_81 (tb_ok ok_con_strings_Repeat tnil_ok)) Tryz.func178 (by kernel_rfl) (pl := .p) fun _ => by kernel_rfl, by kernel_rfl⟩
def c_162 : Con te := conOf te [.d (.st 1)] [(.str, []), (.int .i64, [])] false fun a => stat_Put a.1
theorem ok_162 : OKF 162 c_162 := ⟨conOf_ok eqL_ok (tb_ok ok_81 (tb_ok ok_159 (tb_ok ok_178 (tb_ok ok_169 (tb_ok ok_148 tnil_ok))))) Tryz.func162 (by kernel_rfl) (pl := .s .p (.s .p (.s .p (.s (.s .p (.lp ⟨[(5, .d .str), (22, .d (.int .i64))], [(11, true, .row 182 (.st 7) [])], [1, 20, 21], [0], [], 15⟩ ⟨[(5, .d .str)], [], [1], [0], [], 15⟩ false .p)) (.s (.s .p (.lp ⟨[(5, .d .str), (41, .d (.int .i64))], [(23, true, .row 9 .str [])], [39, 40], [], [], 27⟩ ⟨[(5, .d .str)], [], [], [], [], 27⟩ true .p)) .p))))) fun _ => by kernel_rfl, by kernel_rfl⟩
def c_119 : Con te := conOf te [.b 106 (.st 8), .d (.st 1)] [] false fun a => wire_writer_stat a.1 a.2.1
theorem ok_119 : OKF 119 c_119 := ⟨conOf_ok eqL_ok (tb_ok ok_118 (tb_ok ok_112 (tb_ok ok_162 tnil_ok))) Tryz.func119 (by kernel_rfl) (pl := .p) fun _ => by kernel_rfl, by kernel_rfl⟩
def c_80 : Con te := conOf te [.b 106 (.st 8), .d (.st 2), .d (.int .u8)] [] false fun a => wire_writer_field a.1 a.2.1 a.2.2.1
theorem ok_80 : OKF 80 c_80 := ⟨conOf_ok eqL_ok (tb_ok ok_119 (tb_ok ok_118 (tb_ok ok_117 (tb_ok ok_116 (tb_ok ok_115 (tb_ok ok_114 (tb_ok ok_113 (tb_ok ok_78 tnil_ok)))))))) Tryz.func80 (by kernel_rfl) (pl := .p) fun _ => by kernel_rfl, by kernel_rfl⟩
def c_49 : Con te := conOf te [.d (.st 2)] [(.str, []), (.int .i64, [])] false fun a => wire_Put a.1
theorem ok_49 : OKF 49 c_49 := ⟨conOf_ok eqL_ok (tb_ok ok_81 (tb_ok ok_80 (tb_ok ok_79 (tb_ok ok_78 (tb_ok ok_63 tnil_ok))))) Tryz.func49 (by kernel_rfl) (pl := .s .p (.s .p (.s .p (.s .p (.s .p (.s .p (.s (.s .p (.lp ⟨[(30, .d (.int .i64))], [(10, true, .box 106 (.st 8))], [1, 5, 6, 29], [0], [], 32⟩ ⟨[], [(10, true, .box 106 (.st 8))], [5], [], [], 32⟩ false (.s .p (.s .p (.s (.s .p (.dr [0, 0, 0, 0, 0, 2] [] false [])) .p))))) (.s (.s .p (.s (.s (.dr [0, 0, 0, 0, 0, 0] [] false []) .p) .p)) .p)))))))) fun _ => by kernel_rfl, by kernel_rfl⟩
def c_44 : Con te := conOf te [.d (.st 4), .d (.st 2)] [(.str, []), (.int .i64, [])] false fun a => rpc_encoded a.1 a.2.1
theorem ok_44 : OKF 44 c_44 := ⟨conOf_ok eqL_ok (tb_ok ok_49 tnil_ok) Tryz.func44 (by kernel_rfl) (pl := .p) fun _ => by kernel_rfl, by kernel_rfl⟩
def c_18 : Con te := conOf te [.d (.st 4), .d (.st 2)] [(.st 4, []), (.int .i64, []), (.str, []), (.int .i64, [])] true fun a => rpc_Start a.1 a.2.1
theorem ok_18 : OKF 18 c_18 := ⟨conOf_ok eqL_ok (tb_ok ok_44 (tb_ok ok_43 (tb_ok ok_42 (tb_ok ok_41 (tb_ok ok_40 (tb_ok ok_39 tnil_ok)))))) Tryz.func18 (by kernel_rfl) (pl := .s .p (.s .p (.s .p (.s .p (.s .p (.s .p (.j ⟨[], [(12043, true, .box 38 (.st 2))], [2, 4, 8, 10], [0, 4, 10, 11, 13], [], 12050⟩ false .p (.s .p (.s .p (.s .p (.s (.dr [0, 0, 0, 0, 1, 4, 4, 4] [] true [4]) .p))))))))))) fun _ => by kernel_rfl, by kernel_rfl⟩
def c_20 : Con te := conOf te [.d (.st 4), .d (.int .i64)] [(.st 4, []), (.int .i64, []), (.str, []), (.int .i64, [])] true fun a => rpc_Flush a.1 a.2.1
theorem ok_20 : OKF 20 c_20 := ⟨conOf_ok eqL_ok (tb_ok ok_49 (tb_ok ok_43 (tb_ok ok_48 (tb_ok ok_39 tnil_ok)))) Tryz.func20 (by kernel_rfl) (pl := .s .p (.s .p (.s .p (.s .p (.s .p (.s .p (.s .p (.s .p (.s (.dr [0, 0, 0, 0, 1, 4, 4, 4] [] true [2]) .p))))))))) fun _ => by kernel_rfl, by kernel_rfl⟩
def c_65 : Con te := conOf te [.d .str, .d (.int .i64), .d (.int .i64)] [(.int .i64, []), (.int .i64, []), (.int .i64, [])] false fun a => octet_Get a.1 a.2.1 a.2.2.1
theorem ok_65 : OKF 65 c_65 := ⟨conOf_ok eqL_ok tnil_ok Tryz.func65 (by kernel_rfl) (pl := .s .p (.s .p (.s .p (.s .p (.s (.s .p (.lp ⟨[(9, .d (.int .u64)), (10, .d (.int .i64))], [], [0, 1, 2], [], [], 11018⟩ ⟨[(9, .d (.int .u64))], [], [1, 2], [], [], 11018⟩ false .p)) .p))))) fun _ => by kernel_rfl, by kernel_rfl⟩
def c_108 : Con te := conOf te [.b 127 (.st 9), .d (.int .i64)] [(.int .i64, [])] false fun a => wire_reader_number a.1 a.2.1
theorem ok_108 : OKF 108 c_108 := ⟨conOf_ok eqL_ok (tb_ok ok_65 tnil_ok) Tryz.func108 (by kernel_rfl) (pl := .s .p (.s .p (.s (.dr [0, 0, 0, 0, 0, 0, 0, 0, 0, 0, 0, 0, 0, 0, 0, 0, 0] [] false []) .p))) fun _ => by kernel_rfl, by kernel_rfl⟩
def c_171 : Con te := conOf te [.d .str, .d (.int .i64)] [(.str, []), (.int .i64, []), (.int .i64, [])] false fun a => octet_GetText a.1 a.2.1
theorem ok_171 : OKF 171 c_171 := ⟨conOf_ok eqL_ok (tb_ok ok_65 tnil_ok) Tryz.func171 (by kernel_rfl) (pl := .p) fun _ => by kernel_rfl, by kernel_rfl⟩
def c_149 : Con te := conOf te [.b 127 (.st 9)] [(.str, [])] false fun a => wire_reader_text a.1
theorem ok_149 : OKF 149 c_149 := ⟨conOf_ok eqL_ok (tb_ok ok_171 tnil_ok) Tryz.func149 (by kernel_rfl) (pl := .s .p (.s .p (.s (.dr [0, 0, 0, 0, 0, 0, 0, 0, 0, 0, 0, 0, 0, 0, 0, 0] [] false []) .p))) fun _ => by kernel_rfl, by kernel_rfl⟩
def c_150 : Con te := conOf te [.b 127 (.st 9)] [(.st 0, [])] false fun a => wire_reader_qid a.1
theorem ok_150 : OKF 150 c_150 := ⟨conOf_ok eqL_ok (tb_ok ok_108 tnil_ok) Tryz.func150 (by kernel_rfl) (pl := .p) fun _ => by kernel_rfl, by kernel_rfl⟩
def c_172 : Con te := conOf te [.d .str] [(.int .i64, []), (.bool, [])] false fun a => fault_Find a.1
theorem ok_172 : OKF 172 c_172 := ⟨conOf_ok eqL_ok (tb_ok ok_115 tnil_ok) Tryz.func172 (by kernel_rfl) (pl := .s .p (.s .p (.s (.s .p (.lp ⟨[(4, .d (.int .i64))], [], [0], [], [], 5⟩ ⟨[], [], [], [], [], 5⟩ true .p)) .p))) fun _ => by kernel_rfl, by kernel_rfl⟩
def c_151 : Con te := conOf te [.b 127 (.st 9)] [(.int .i64, [])] false fun a => wire_reader_fault a.1
theorem ok_151 : OKF 151 c_151 := ⟨conOf_ok eqL_ok (tb_ok ok_172 (tb_ok ok_149 tnil_ok)) Tryz.func151 (by kernel_rfl) (pl := .p) fun _ => by kernel_rfl, by kernel_rfl⟩
def c_152 : Con te := conOf te [.b 127 (.st 9)] [(.sl .str, [some 9])] false fun a => wire_reader_names a.1
theorem ok_152 : OKF 152 c_152 := ⟨conOf_ok eqL_ok (tb_ok ok_149 (tb_ok ok_108 tnil_ok)) Tryz.func152 (by kernel_rfl) (pl := .s .p (.s .p (.s (.s .p (.lp ⟨[(3, .one (.own 8)), (4, .d (.int .i64))], [(0, true, .box 127 (.st 9)), (8, false, .row 9 .str [])], [0], [], [], 9⟩ ⟨[(3, .one (.own 8))], [(8, false, .row 9 .str []), (0, true, .box 127 (.st 9))], [], [], [], 9⟩ false .p)) .p))) fun _ => by kernel_rfl, by kernel_rfl⟩
def c_153 : Con te := conOf te [.b 127 (.st 9)] [(.sl (.st 0), [some 33])] false fun a => wire_reader_qids a.1
theorem ok_153 : OKF 153 c_153 := ⟨conOf_ok eqL_ok (tb_ok ok_150 (tb_ok ok_108 tnil_ok)) Tryz.func153 (by kernel_rfl) (pl := .s .p (.s .p (.s (.s .p (.lp ⟨[(3, .one (.own 8)), (4, .d (.int .i64))], [(0, true, .box 127 (.st 9)), (8, false, .row 33 (.st 0) [])], [0], [], [], 9⟩ ⟨[(3, .one (.own 8))], [(8, false, .row 33 (.st 0) []), (0, true, .box 127 (.st 9))], [], [], [], 9⟩ false .p)) .p))) fun _ => by kernel_rfl, by kernel_rfl⟩
def c_154 : Con te := conOf te [.b 127 (.st 9), .d (.int .i64)] [(.str, [])] false fun a => wire_reader_data a.1 a.2.1
theorem ok_154 : OKF 154 c_154 := ⟨conOf_ok eqL_ok (tb_ok ok_108 tnil_ok) Tryz.func154 (by kernel_rfl) (pl := .s .p (.s .p (.s (.s (.dr [0, 0, 0, 0, 0, 0, 0, 0, 0, 0, 0, 0, 0, 0, 0, 0, 0, 0, 0] [] false []) .p) (.s .p (.s (.dr [0, 0, 0, 0, 0, 0, 0, 0, 0, 0, 0, 0, 0, 0, 0, 0] [] false []) .p))))) fun _ => by kernel_rfl, by kernel_rfl⟩
def c_186 : Con te := conOf te [.b 194 (.st 10), .d (.int .i64)] [(.int .i64, [])] false fun a => stat_reader_number a.1 a.2.1
theorem ok_186 : OKF 186 c_186 := ⟨conOf_ok eqL_ok (tb_ok ok_65 (tb_ok ok_con_strings_Count tnil_ok)) Tryz.func186 (by kernel_rfl) (pl := .s .p (.s (.s (.dr [0, 0, 0, 0, 0, 0, 0, 0, 0, 0, 0, 0, 0, 0, 0, 0, 0, 0, 0] [] false []) .p) (.s (.dr [0, 0, 0, 0, 0, 0, 0, 0, 0, 0, 0, 0, 0, 0, 0, 0] [] false []) .p))) fun _ => by kernel_rfl, by kernel_rfl⟩
def c_187 : Con te := conOf te [.b 194 (.st 10)] [(.str, [])] false fun a => stat_reader_text a.1
theorem ok_187 : OKF 187 c_187 := ⟨conOf_ok eqL_ok (tb_ok ok_171 tnil_ok) Tryz.func187 (by kernel_rfl) (pl := .s .p (.s .p (.s (.dr [0, 0, 0, 0, 0, 0, 0, 0, 0, 0, 0, 0, 0, 0, 0, 0] [] false []) .p))) fun _ => by kernel_rfl, by kernel_rfl⟩
def c_180 : Con te := conOf te [.b 194 (.st 10)] [(.st 1, [])] false fun a => stat_reader_read a.1
theorem ok_180 : OKF 180 c_180 := ⟨conOf_ok eqL_ok (tb_ok ok_187 (tb_ok ok_186 tnil_ok)) Tryz.func180 (by kernel_rfl) (pl := .p) fun _ => by kernel_rfl, by kernel_rfl⟩
def c_173 : Con te := conOf te [.d .str, .d (.int .i64)] [(.st 1, []), (.int .i64, []), (.int .i64, [])] false fun a => stat_Get a.1 a.2.1
theorem ok_173 : OKF 173 c_173 := ⟨conOf_ok eqL_ok (tb_ok ok_148 (tb_ok ok_180 (tb_ok ok_65 tnil_ok))) Tryz.func173 (by kernel_rfl) (pl := .p) fun _ => by kernel_rfl, by kernel_rfl⟩
def c_155 : Con te := conOf te [.b 127 (.st 9)] [(.st 1, [])] false fun a => wire_reader_stat a.1
theorem ok_155 : OKF 155 c_155 := ⟨conOf_ok eqL_ok (tb_ok ok_173 (tb_ok ok_154 tnil_ok)) Tryz.func155 (by kernel_rfl) (pl := .p) fun _ => by kernel_rfl, by kernel_rfl⟩
def c_109 : Con te := conOf te [.b 127 (.st 9), .b 38 (.st 2), .d (.int .u8)] [] true fun a => wire_reader_field a.1 a.2.1 a.2.2.1
theorem ok_109 : OKF 109 c_109 := ⟨conOf_ok eqL_ok (tb_ok ok_155 (tb_ok ok_154 (tb_ok ok_153 (tb_ok ok_152 (tb_ok ok_151 (tb_ok ok_150 (tb_ok ok_149 (tb_ok ok_108 tnil_ok)))))))) Tryz.func109 (by kernel_rfl) (pl := .p) fun _ => by kernel_rfl, by kernel_rfl⟩
def c_66 : Con te := conOf te [.d .str, .d (.int .i64)] [(.st 2, []), (.int .i64, []), (.int .i64, [])] true fun a => wire_Get a.1 a.2.1
theorem ok_66 : OKF 66 c_66 := ⟨conOf_ok eqL_ok (tb_ok ok_63 (tb_ok ok_71 (tb_ok ok_109 (tb_ok ok_79 (tb_ok ok_108 (tb_ok ok_65 tnil_ok)))))) Tryz.func66 (by kernel_rfl) (pl := .s .p (.s .p (.s .p (.s .p (.s .p (.s .p (.s (.s .p (.lp ⟨[(61, .d (.int .i64))], [(37, true, .box 127 (.st 9)), (49, true, .box 38 (.st 2))], [1, 4, 7, 10, 11, 12, 60], [0], [], 60⟩ ⟨[], [(37, true, .box 127 (.st 9)), (49, true, .box 38 (.st 2))], [1, 4, 7, 10, 11], [0], [], 60⟩ false .p)) .p))))))) fun _ => by kernel_rfl, by kernel_rfl⟩
def c_35 : Con te := conOf te [.d .str, .d (.int .i64)] [(.sl (.st 2), []), (.str, []), (.int .i64, [])] true fun a => wire_Split a.1 a.2.1
theorem ok_35 : OKF 35 c_35 := ⟨conOf_ok eqL_ok (tb_ok ok_66 (tb_ok ok_65 tnil_ok)) Tryz.func35 (by kernel_rfl) (pl := .s .p (.s .p (.j ⟨[(7, .d (.int .i64))], [], [0], [], [], 5⟩ false .p (.s .p (.s (.lp ⟨[(0, .d .str), (8, .one (.own 6))], [(6, false, .row 38 (.st 2) [])], [7], [], [], 7⟩ ⟨[(0, .d .str), (8, .one (.own 6))], [(6, false, .row 38 (.st 2) [])], [], [], [], 7⟩ true (.s .p (.s .p (.s .p (.s .p (.s .p (.s .p (.dr [0, 0, 1, 2, 4, 4, 4, 4, 4] [4, 5, 6] false [])))))))) .p))))) fun _ => by kernel_rfl, by kernel_rfl⟩
def c_58 : Con te := conOf te [.d (.st 2), .d (.int .i64)] [(.st 2, [])] true fun a => msg_Fail a.1 a.2.1
theorem ok_58 : OKF 58 c_58 := ⟨conOf_ok eqL_ok tnil_ok Tryz.func58 (by kernel_rfl) (pl := .p) fun _ => by kernel_rfl, by kernel_rfl⟩
def c_27 : Con te := conOf te [.d (.st 4)] [(.st 4, []), (.sl (.st 2), [])] true fun a => rpc_Lose a.1
theorem ok_27 : OKF 27 c_27 := ⟨conOf_ok eqL_ok (tb_ok ok_58 (tb_ok ok_39 tnil_ok)) Tryz.func27 (by kernel_rfl) (pl := .s .p (.s .p (.s .p (.s .p (.s (.s .p (.lp ⟨[(5, .one (.own 21)), (17, .d (.int .i64))], [(21, false, .row 38 (.st 2) [])], [2, 4, 15, 16], [2, 6, 7, 9], [], 22⟩ ⟨[(5, .one (.own 21))], [(21, false, .row 38 (.st 2) [])], [2, 4], [2, 6, 7, 9], [], 22⟩ false .p)) .p))))) fun _ => by kernel_rfl, by kernel_rfl⟩
def c_120 : Con te := conOf te [.d (.int .i64)] [(.int .i64, [])] false fun a => msg_Reply a.1
theorem ok_120 : OKF 120 c_120 := ⟨conOf_ok eqL_ok (tb_ok ok_40 tnil_ok) Tryz.func120 (by kernel_rfl) (pl := .p) fun _ => by kernel_rfl, by kernel_rfl⟩
def c_82 : Con te := conOf te [.d (.st 2), .d (.st 2)] [(.bool, [])] false fun a => msg_Answers a.1 a.2.1
theorem ok_82 : OKF 82 c_82 := ⟨conOf_ok eqL_ok (tb_ok ok_120 (tb_ok ok_40 tnil_ok)) Tryz.func82 (by kernel_rfl) (pl := .s .p (.s .p (.s .p (.s (.s (.dr [0, 0, 0, 0, 0, 0] [] false []) .p) .p)))) fun _ => by kernel_rfl, by kernel_rfl⟩
def c_83 : Con te := conOf te [.d (.st 2), .d (.st 2)] [(.int .i64, [])] false fun a => rpc_versionError a.1 a.2.1
theorem ok_83 : OKF 83 c_83 := ⟨conOf_ok eqL_ok tnil_ok Tryz.func83 (by kernel_rfl) (pl := .p) fun _ => by kernel_rfl, by kernel_rfl⟩
theorem e_22 (a : PA te [.d (.st 4), .d .str]) : rpc_Receive a.1 a.2.1 = evFun Tryz.prog te eqL (ti 50 (inlF Tryz.prog te eqL (ti 85 (inlF Tryz.prog te eqL (ti 84 (inlF Tryz.prog te eqL (tb 121 con_slices_DeleteM tnil) Tryz.f84 (.p : Pl)) (tb 58 c_58 tnil)) Tryz.f85 (.s .p (.s (.s .p (.s (.s (.ot 0 (.free 0 (.free 1 (.free 2 (.free 3 (.free 5 (.free 6 (.alt 4 (.alt 7 (.alt 8 (.alt 9 (.alt 10 (.free 11 (.free 12 (.alt 13 .nil .nil))) .nil) .nil) .nil) .nil) (.alt 7 (.alt 4 (.alt 8 (.alt 9 (.alt 10 (.free 11 (.free 12 (.alt 13 .nil .nil))) .nil) .nil) .nil) (.alt 8 (.alt 4 (.alt 9 (.alt 10 (.free 11 (.free 12 (.alt 13 .nil .nil))) .nil) .nil) (.alt 9 (.alt 4 (.alt 10 (.free 11 (.free 12 (.alt 13 .nil .nil))) .nil) .nil) .nil)) .nil)) .nil))))))))) .p) .p)) .p))) (ti 84 (inlF Tryz.prog te eqL (tb 121 con_slices_DeleteM tnil) Tryz.f84 (.p : Pl)) (tb 83 c_83 (tb 82 c_82 (tb 48 c_48 tnil))))) Tryz.f50 (.s .p (.s (.dr [0, 0, 0, 0, 0, 0, 0, 0, 0] [] false []) (.s .p (.s .p (.s .p (.s .p (.s .p (.j ⟨[], [(11, true, .cells 78 [.v .bool, .v (.int .i64), .v .str, .own 7, .own 119, .v .str, .own 44]), (7, true, .row 3 (.int .i64) []), (119, true, .row 63 (.st 3) []), (44, true, .row 38 (.st 2) [])], [0, 3, 6], [54, 78], [], 330⟩ false (.s .p (.s (.dr [0, 0, 0, 0, 0, 0, 0, 0, 0, 1, 4, 4, 4, 1] [] true [11]) .p)) (.j ⟨[], [(11, true, .cells 78 [.v .bool, .v (.int .i64), .v .str, .own 7, .own 330, .v .str, .own 331]), (7, true, .row 3 (.int .i64) []), (330, false, .row 63 (.st 3) []), (331, false, .row 38 (.st 2) [])], [0, 3], [54], [], 332⟩ false (.s .p (.s (.s (.dr [0, 0, 0, 0, 0, 0, 0, 0, 0] [] false []) .p) .p)) (.s (.dr [4, 0, 0, 0, 0, 0, 1, 2, 4, 4, 2] [0, 1, 2, 3, 4, 5] false []) .p))))))))))) (tb 58 c_58 (tb 121 con_slices_DeleteM (tb 83 c_83 (tb 82 c_82 (tb 48 c_48 (tb 27 c_27 (tb 35 c_35 (tb 39 c_39 tnil))))))))) Tryz.f22 [.d (.st 4), .d .str] [(.st 4, []), (.sl (.st 2), []), (.int .i64, [])] (.s .p (.s .p (.s .p (.s .p (.s .p (.s .p (.s (.s .p (.lp ⟨[(10, .d (.int .i64)), (56, .d (.int .i64))], [(11, true, .cells 78 [.v .bool, .v (.int .i64), .v .str, .own 7, .own 43, .v .str, .own 44]), (7, true, .row 3 (.int .i64) []), (43, false, .row 63 (.st 3) []), (44, false, .row 38 (.st 2) [])], [4, 7, 9, 54, 55], [2], [], 45⟩ ⟨[(10, .d (.int .i64))], [(11, true, .cells 78 [.v .bool, .v (.int .i64), .v .str, .own 7, .own 43, .v .str, .own 44]), (7, true, .row 3 (.int .i64) []), (43, false, .row 63 (.st 3) []), (44, false, .row 38 (.st 2) [])], [4, 7, 9], [2], [], 45⟩ false .p)) (.j ⟨[(10, .d (.int .i64))], [], [4, 7], [2, 7, 11, 43, 44], [], 45⟩ false .p (.s (.s .p (.s (.s .p (.s (.dr [0, 0, 0, 0, 0, 0, 1, 0, 1, 4, 4] [7] true [2, 44]) .p)) .p)) (.s (.dr [0, 0, 0, 0, 0, 0, 0, 0, 1, 4, 4] [] true [2]) .p)))))))))) a := by kernel_rfl
def c_22 : Con te := conOf te [.d (.st 4), .d .str] [(.st 4, []), (.sl (.st 2), []), (.int .i64, [])] true fun a => rpc_Receive a.1 a.2.1
theorem ok_22 : OKF 22 c_22 := ⟨conOf_ok eqL_ok (ti_ok ⟨inlF_ok eqL_ok (ti_ok ⟨inlF_ok eqL_ok (ti_ok ⟨inlF_ok eqL_ok (tb_ok ok_con_slices_DeleteM tnil_ok) Tryz.func84, by kernel_rfl⟩ (tb_ok ok_58 tnil_ok)) Tryz.func85, by kernel_rfl⟩ (ti_ok ⟨inlF_ok eqL_ok (tb_ok ok_con_slices_DeleteM tnil_ok) Tryz.func84, by kernel_rfl⟩ (tb_ok ok_83 (tb_ok ok_82 (tb_ok ok_48 tnil_ok))))) Tryz.func50, by kernel_rfl⟩ (tb_ok ok_58 (tb_ok ok_con_slices_DeleteM (tb_ok ok_83 (tb_ok ok_82 (tb_ok ok_48 (tb_ok ok_27 (tb_ok ok_35 (tb_ok ok_39 tnil_ok))))))))) Tryz.func22 (by kernel_rfl) e_22, by kernel_rfl⟩
def c_33 : Con te := conOf te [.d (.sl (.int .i64))] [(.bool, [])] false fun a => rpc_rightFids a.1
theorem ok_33 : OKF 33 c_33 := ⟨conOf_ok eqL_ok tnil_ok Tryz.func33 (by kernel_rfl) (pl := .s .p (.s .p (.s (.s .p (.lp ⟨[(10, .d (.int .i64))], [], [0, 8, 9], [], [], 7⟩ ⟨[], [], [], [], [], 7⟩ true .p)) .p))) fun _ => by kernel_rfl, by kernel_rfl⟩
def c_34 : Con te := conOf te [.d (.sl (.st 3)), .d (.int .i64)] [(.bool, [])] false fun a => rpc_rightCall a.1 a.2.1
theorem ok_34 : OKF 34 c_34 := ⟨conOf_ok eqL_ok (tb_ok ok_64 (tb_ok ok_48 (tb_ok ok_63 (tb_ok ok_40 tnil_ok)))) Tryz.func34 (by kernel_rfl) (pl := .s .p (.s .p (.s .p (.s (.s .p (.s .p (.s .p (.s .p (.s (.s .p (.s (.dr [0, 0, 0, 0, 0, 0, 0, 0, 0, 0, 0, 0, 0, 0, 0, 0, 0, 0, 0, 0, 0, 0, 0, 0, 0, 0, 0, 0, 0, 0, 0, 0, 0, 0] [] false []) .p)) .p))))) (.s (.dr [0, 0, 0, 0, 0, 0, 0, 0, 0, 0, 0, 0, 0, 0, 0, 0] [] false []) .p))))) fun _ => by kernel_rfl, by kernel_rfl⟩
def c_12 : Con te := conOf te [.d (.st 4)] [(.bool, [])] false fun a => rpc_Right a.1
theorem ok_12 : OKF 12 c_12 := ⟨conOf_ok eqL_ok (tb_ok ok_35 (tb_ok ok_34 (tb_ok ok_33 tnil_ok))) Tryz.func12 (by kernel_rfl) (pl := .s .p (.s .p (.s (.s .p (.lp ⟨[(41, .d (.int .i64))], [], [1, 40], [0], [], 24014⟩ ⟨[], [], [1], [0], [], 24014⟩ true .p)) .p))) fun _ => by kernel_rfl, by kernel_rfl⟩
def c_11 : Con te := conOf te [] [(.bool, [])] false fun _ => law38_awake
theorem ok_11 : OKF 11 c_11 := ⟨conOf_ok eqL_ok (tb_ok ok_12 (tb_ok ok_22 (tb_ok ok_20 (tb_ok ok_18 (tb_ok ok_15 tnil_ok))))) Tryz.func11 (by kernel_rfl) (pl := .p) fun _ => by kernel_rfl, by kernel_rfl⟩
def c_98 : Con te := conOf te [.d (.int .i64)] [(.str, [])] false fun a => ref08_late a.1
theorem ok_98 : OKF 98 c_98 := ⟨conOf_ok eqL_ok tnil_ok Tryz.func98 (by kernel_rfl) (pl := .p) fun _ => by kernel_rfl, by kernel_rfl⟩
def c_57 : Con te := conOf te [.d (.int .i64)] [(.str, [])] false fun a => ref08_Name a.1
theorem ok_57 : OKF 57 c_57 := ⟨conOf_ok eqL_ok (tb_ok ok_98 tnil_ok) Tryz.func57 (by kernel_rfl) (pl := .p) fun _ => by kernel_rfl, by kernel_rfl⟩
def c_26 : Con te := conOf te [.d (.int .i64)] [(.bool, [])] false fun a => ref08_Request a.1
theorem ok_26 : OKF 26 c_26 := ⟨conOf_ok eqL_ok (tb_ok ok_57 tnil_ok) Tryz.func26 (by kernel_rfl) (pl := .p) fun _ => by kernel_rfl, by kernel_rfl⟩
def c_88 : Con te := conOf te [.d (.st 2)] [(.int .i64, [])] false fun a => ref08_tag a.1
theorem ok_88 : OKF 88 c_88 := ⟨conOf_ok eqL_ok tnil_ok Tryz.func88 (by kernel_rfl) (pl := .p) fun _ => by kernel_rfl, by kernel_rfl⟩
def c_91 : Con te := conOf te [.d (.int .i64)] [(.str, [])] false fun a => ref08_Fields a.1
theorem ok_91 : OKF 91 c_91 := ⟨conOf_ok eqL_ok tnil_ok Tryz.func91 (by kernel_rfl) (pl := .s .p (.s (.s .p (.s .p (.s .p (.s .p (.s .p (.s .p (.s .p (.j ⟨[(10, .d .bool)], [], [3], [], [], 8⟩ false .p (.s .p (.s .p (.s .p (.s .p (.s .p (.s .p (.s .p (.s .p (.s .p (.s .p (.s .p (.s .p (.s .p (.j ⟨[(25, .d .bool)], [], [3], [], [], 20⟩ false .p (.s .p (.s .p (.s .p (.s .p (.s .p (.s .p (.s .p (.s .p (.s .p (.s .p (.s .p (.j ⟨[(38, .d .bool)], [], [3], [], [], 30⟩ false .p .p)))))))))))))))))))))))))))))))))) .p)) fun _ => by kernel_rfl, by kernel_rfl⟩
def c_89 : Con te := conOf te [.d (.int .i64), .d (.int .u8)] [(.bool, [])] false fun a => ref08_Uses a.1 a.2.1
theorem ok_89 : OKF 89 c_89 := ⟨conOf_ok eqL_ok (tb_ok ok_91 tnil_ok) Tryz.func89 (by kernel_rfl) (pl := .s .p (.s .p (.s (.s .p (.lp ⟨[(6, .d (.int .i64))], [], [1, 5], [], [], 5⟩ ⟨[], [], [], [], [], 5⟩ true .p)) .p))) fun _ => by kernel_rfl, by kernel_rfl⟩
def c_123 : Con te := conOf te [.d (.st 2), .d (.int .u8)] [(.bool, [])] false fun a => ref08_zeroLate a.1 a.2.1
theorem ok_123 : OKF 123 c_123 := ⟨conOf_ok eqL_ok tnil_ok Tryz.func123 (by kernel_rfl) (pl := .p) fun _ => by kernel_rfl, by kernel_rfl⟩
def c_90 : Con te := conOf te [.d (.st 2), .d (.int .u8)] [(.bool, [])] false fun a => ref08_Zero a.1 a.2.1
theorem ok_90 : OKF 90 c_90 := ⟨conOf_ok eqL_ok (tb_ok ok_123 tnil_ok) Tryz.func90 (by kernel_rfl) (pl := .p) fun _ => by kernel_rfl, by kernel_rfl⟩
def c_124 : Con te := conOf te [.d (.int .i64), .d (.int .i64)] [(.int .i64, [])] false fun a => ref08_number a.1 a.2.1
theorem ok_124 : OKF 124 c_124 := ⟨conOf_ok eqL_ok tnil_ok Tryz.func124 (by kernel_rfl) (pl := .p) fun _ => by kernel_rfl, by kernel_rfl⟩
def c_125 : Con te := conOf te [.d .str, .d (.int .i64)] [(.int .i64, [])] false fun a => ref08_length a.1 a.2.1
theorem ok_125 : OKF 125 c_125 := ⟨conOf_ok eqL_ok tnil_ok Tryz.func125 (by kernel_rfl) (pl := .p) fun _ => by kernel_rfl, by kernel_rfl⟩
def c_163 : Con te := conOf te [.d .str] [(.bool, [])] false fun a => ref03_Valid a.1
theorem ok_163 : OKF 163 c_163 := ⟨conOf_ok eqL_ok tnil_ok Tryz.func163 (by kernel_rfl) (pl := .s .p (.s (.s .p (.lp ⟨[(3, .d (.int .i64))], [], [0], [], [], 2⟩ ⟨[], [], [0], [], [], 2⟩ true .p)) .p)) fun _ => by kernel_rfl, by kernel_rfl⟩
def c_126 : Con te := conOf te [.d (.sl .str)] [(.int .i64, [])] false fun a => ref08_names a.1
theorem ok_126 : OKF 126 c_126 := ⟨conOf_ok eqL_ok (tb_ok ok_163 tnil_ok) Tryz.func126 (by kernel_rfl) (pl := .s .p (.s .p (.s (.s .p (.lp ⟨[(9, .d (.int .i64))], [], [0, 8], [], [], 7⟩ ⟨[], [], [], [], [], 7⟩ true .p)) .p))) fun _ => by kernel_rfl, by kernel_rfl⟩
def c_128 : Con te := conOf te [.d (.st 0)] [(.int .i64, [])] false fun a => ref08_qid a.1
theorem ok_128 : OKF 128 c_128 := ⟨conOf_ok eqL_ok tnil_ok Tryz.func128 (by kernel_rfl) (pl := .p) fun _ => by kernel_rfl, by kernel_rfl⟩
def c_127 : Con te := conOf te [.d (.sl (.st 0))] [(.int .i64, [])] false fun a => ref08_qids a.1
theorem ok_127 : OKF 127 c_127 := ⟨conOf_ok eqL_ok (tb_ok ok_128 tnil_ok) Tryz.func127 (by kernel_rfl) (pl := .s .p (.s .p (.s (.s .p (.lp ⟨[(10, .d (.int .i64))], [], [0, 9], [], [], 7⟩ ⟨[], [], [], [], [], 7⟩ true .p)) .p))) fun _ => by kernel_rfl, by kernel_rfl⟩
def c_184 : Con te := conOf te [.d (.int .i64), .d (.int .i64)] [(.bool, [])] false fun a => ref07_sum a.1 a.2.1
theorem ok_184 : OKF 184 c_184 := ⟨conOf_ok eqL_ok tnil_ok Tryz.func184 (by kernel_rfl) (pl := .p) fun _ => by kernel_rfl, by kernel_rfl⟩
def c_185 : Con te := conOf te [.d (.int .i64), .d (.int .i64)] [(.bool, [])] false fun a => ref07_in a.1 a.2.1
theorem ok_185 : OKF 185 c_185 := ⟨conOf_ok eqL_ok tnil_ok Tryz.func185 (by kernel_rfl) (pl := .p) fun _ => by kernel_rfl, by kernel_rfl⟩
def c_179 : Con te := conOf te [.d (.st 1)] [(.bool, [])] false fun a => ref07_Numbers a.1
theorem ok_179 : OKF 179 c_179 := ⟨conOf_ok eqL_ok (tb_ok ok_185 (tb_ok ok_184 tnil_ok)) Tryz.func179 (by kernel_rfl) (pl := .p) fun _ => by kernel_rfl, by kernel_rfl⟩
def c_164 : Con te := conOf te [.d (.st 1)] [(.int .i64, [])] false fun a => ref07_Check a.1
theorem ok_164 : OKF 164 c_164 := ⟨conOf_ok eqL_ok (tb_ok ok_163 (tb_ok ok_179 tnil_ok)) Tryz.func164 (by kernel_rfl) (pl := .p) fun _ => by kernel_rfl, by kernel_rfl⟩
def c_129 : Con te := conOf te [.d (.st 2), .d (.int .u8)] [(.int .i64, [])] false fun a => ref08_faultLate a.1 a.2.1
theorem ok_129 : OKF 129 c_129 := ⟨conOf_ok eqL_ok (tb_ok ok_164 (tb_ok ok_125 (tb_ok ok_163 (tb_ok ok_124 tnil_ok)))) Tryz.func129 (by kernel_rfl) (pl := .p) fun _ => by kernel_rfl, by kernel_rfl⟩
def c_92 : Con te := conOf te [.d (.st 2), .d (.int .u8)] [(.int .i64, [])] false fun a => ref08_fault a.1 a.2.1
theorem ok_92 : OKF 92 c_92 := ⟨conOf_ok eqL_ok (tb_ok ok_129 (tb_ok ok_128 (tb_ok ok_127 (tb_ok ok_126 (tb_ok ok_125 (tb_ok ok_124 tnil_ok)))))) Tryz.func92 (by kernel_rfl) (pl := .p) fun _ => by kernel_rfl, by kernel_rfl⟩
def c_52 : Con te := conOf te [.d (.st 2)] [(.int .i64, [])] false fun a => ref08_Check a.1
theorem ok_52 : OKF 52 c_52 := ⟨conOf_ok eqL_ok (tb_ok ok_92 (tb_ok ok_91 (tb_ok ok_90 (tb_ok ok_89 (tb_ok ok_88 (tb_ok ok_57 tnil_ok)))))) Tryz.func52 (by kernel_rfl) (pl := .s .p (.s .p (.s .p (.s (.s .p (.lp ⟨[(4, .d (.int .i64))], [], [1], [0], [], 13⟩ ⟨[], [], [1], [0], [], 13⟩ true (.s .p (.s (.s (.dr [0, 0, 0, 0, 0, 0, 0, 0, 0, 0, 0, 0, 0] [] false []) .p) .p)))) (.s .p (.s (.s .p (.lp ⟨[(6, .d (.int .i64))], [], [1, 5], [0], [], 18⟩ ⟨[], [], [], [], [], 18⟩ true (.s .p (.s (.s (.dr [0, 0, 0, 0, 0, 0] [] false []) .p) .p)))) .p)))))) fun _ => by kernel_rfl, by kernel_rfl⟩
def c_45 : Con te := conOf te [.d (.sl (.st 3)), .d (.int .i64)] [(.int .i64, [])] false fun a => ref38_index a.1 a.2.1
theorem ok_45 : OKF 45 c_45 := ⟨conOf_ok eqL_ok tnil_ok Tryz.func45 (by kernel_rfl) (pl := .s .p (.s (.s .p (.lp ⟨[(5, .d (.int .i64))], [], [0, 1], [], [], 2⟩ ⟨[], [], [], [], [], 2⟩ true .p)) .p)) fun _ => by kernel_rfl, by kernel_rfl⟩
def c_67 : Con te := conOf te [.d (.sl (.st 3)), .d (.int .i64)] [(.int .i64, [])] false fun a => ref38_flush a.1 a.2.1
theorem ok_67 : OKF 67 c_67 := ⟨conOf_ok eqL_ok tnil_ok Tryz.func67 (by kernel_rfl) (pl := .s .p (.s (.s .p (.lp ⟨[(5, .d (.int .i64))], [], [0, 1], [], [], 2⟩ ⟨[], [], [], [], [], 2⟩ true .p)) .p)) fun _ => by kernel_rfl, by kernel_rfl⟩
def c_36 : Con te := conOf te [.d (.sl (.st 3))] [(.bool, [])] false fun a => ref38_rightCalls a.1
theorem ok_36 : OKF 36 c_36 := ⟨conOf_ok eqL_ok (tb_ok ok_67 (tb_ok ok_45 (tb_ok ok_52 (tb_ok ok_26 tnil_ok)))) Tryz.func36 (by kernel_rfl) (pl := .s .p (.s (.s .p (.lp ⟨[(3, .d (.int .i64))], [], [0], [], [], 2⟩ ⟨[], [], [0], [], [], 2⟩ true (.s .p (.s (.s .p (.s .p (.s .p (.s (.s (.dr [0, 0, 0, 0, 0, 0, 0, 0, 0, 0, 0, 0, 0, 0, 0, 0, 0, 0, 0, 0, 0, 0, 0, 0, 0] [] false []) .p) (.s .p (.j ⟨[(6, .d (.int .i64))], [], [0, 3], [], [], 50037⟩ false .p .p)))))) .p)))) .p)) fun _ => by kernel_rfl, by kernel_rfl⟩
def c_97 : Con te := conOf te [.d (.int .i64)] [(.bool, [])] false fun a => ref02_valid a.1
theorem ok_97 : OKF 97 c_97 := ⟨conOf_ok eqL_ok tnil_ok Tryz.func97 (by kernel_rfl) (pl := .p) fun _ => by kernel_rfl, by kernel_rfl⟩
def c_68 : Con te := conOf te [.d .str, .d (.int .i64), .d (.int .i64)] [(.int .i64, []), (.int .i64, []), (.int .i64, [])] false fun a => ref02_Get a.1 a.2.1 a.2.2.1
theorem ok_68 : OKF 68 c_68 := ⟨conOf_ok eqL_ok (tb_ok ok_97 tnil_ok) Tryz.func68 (by kernel_rfl) (pl := .s .p (.s .p (.s .p (.s .p (.s (.s .p (.lp ⟨[(9, .d (.int .i64)), (10, .d (.int .i64))], [], [0, 1, 2], [], [], 8018⟩ ⟨[(9, .d (.int .i64))], [], [1, 2], [], [], 8018⟩ true .p)) .p))))) fun _ => by kernel_rfl, by kernel_rfl⟩
def c_110 : Con te := conOf te [.d (.st 11), .d (.int .i64)] [(.st 11, []), (.int .i64, [])] false fun a => ref09_number a.1 a.2.1
theorem ok_110 : OKF 110 c_110 := ⟨conOf_ok eqL_ok (tb_ok ok_68 tnil_ok) Tryz.func110 (by kernel_rfl) (pl := .p) fun _ => by kernel_rfl, by kernel_rfl⟩
def c_53 : Con te := conOf te [.d (.int .i64)] [(.sl (.int .i64), []), (.bool, [])] true fun a => ref09_Fields a.1
theorem ok_53 : OKF 53 c_53 := ⟨conOf_ok eqL_ok tnil_ok Tryz.func53 (by kernel_rfl) (pl := .s .p (.s (.s .p (.s .p (.s .p (.s .p (.s .p (.s .p (.s .p (.j ⟨[(14, .d .bool)], [], [4], [], [], 9⟩ false .p (.s .p (.s .p (.s .p (.s .p (.s .p (.s .p (.s .p (.s .p (.s .p (.s .p (.s .p (.s .p (.s .p (.j ⟨[(36, .d .bool)], [], [4], [], [], 21⟩ false .p (.s .p (.s .p (.s .p (.s .p (.s .p (.s .p (.s .p (.s .p (.s .p (.s .p (.s .p (.j ⟨[(55, .d .bool)], [], [4], [], [], 31⟩ false .p (.s .p (.s .p (.s .p (.s .p (.s .p (.s .p (.s .p (.s .p (.s .p (.s .p (.s .p (.j ⟨[(75, .d .bool)], [], [], [], [], 41⟩ false .p .p)))))))))))))))))))))))))))))))))))))))))))))) .p)) fun _ => by kernel_rfl, by kernel_rfl⟩
def c_174 : Con te := conOf te [.d .str, .d (.int .i64)] [(.str, []), (.int .i64, []), (.int .i64, [])] false fun a => ref02_GetText a.1 a.2.1
theorem ok_174 : OKF 174 c_174 := ⟨conOf_ok eqL_ok (tb_ok ok_68 tnil_ok) Tryz.func174 (by kernel_rfl) (pl := .p) fun _ => by kernel_rfl, by kernel_rfl⟩
def c_156 : Con te := conOf te [.d (.st 11)] [(.st 11, []), (.str, [])] false fun a => ref09_counted a.1
theorem ok_156 : OKF 156 c_156 := ⟨conOf_ok eqL_ok (tb_ok ok_174 tnil_ok) Tryz.func156 (by kernel_rfl) (pl := .p) fun _ => by kernel_rfl, by kernel_rfl⟩
def c_157 : Con te := conOf te [.d (.st 11)] [(.st 11, []), (.st 0, [])] false fun a => ref09_getQid a.1
theorem ok_157 : OKF 157 c_157 := ⟨conOf_ok eqL_ok (tb_ok ok_110 tnil_ok) Tryz.func157 (by kernel_rfl) (pl := .p) fun _ => by kernel_rfl, by kernel_rfl⟩
def c_131 : Con te := conOf te [] [(.sl .str, [some 9])] false fun _ => ref04_texts
theorem ok_131 : OKF 131 c_131 := ⟨conOf_ok eqL_ok tnil_ok Tryz.func131 (by kernel_rfl) (pl := .p) fun _ => by kernel_rfl, by kernel_rfl⟩
def c_175 : Con te := conOf te [.d .str] [(.int .i64, []), (.bool, [])] false fun a => ref04_Find a.1
theorem ok_175 : OKF 175 c_175 := ⟨conOf_ok eqL_ok (tb_ok ok_131 tnil_ok) Tryz.func175 (by kernel_rfl) (pl := .s .p (.s .p (.s (.s .p (.lp ⟨[(5, .d (.int .i64))], [(2, true, .row 9 .str [])], [0, 4], [], [], 6⟩ ⟨[], [], [], [], [], 6⟩ true .p)) .p))) fun _ => by kernel_rfl, by kernel_rfl⟩
def c_176 : Con te := conOf te [.d (.st 11), .d (.int .i64)] [(.st 11, []), (.str, [])] false fun a => ref09_raw a.1 a.2.1
theorem ok_176 : OKF 176 c_176 := ⟨conOf_ok eqL_ok tnil_ok Tryz.func176 (by kernel_rfl) (pl := .s .p (.s .p (.s (.dr [0, 0, 0, 0, 0, 0, 0, 0, 0, 1, 4] [] true [2]) .p))) fun _ => by kernel_rfl, by kernel_rfl⟩
def c_181 : Con te := conOf te [.d .str] [(.st 12, []), (.bool, [])] false fun a => ref07_texts a.1
theorem ok_181 : OKF 181 c_181 := ⟨conOf_ok eqL_ok tnil_ok Tryz.func181 (by kernel_rfl) (pl := .s .p (.s .p (.s .p (.s (.s .p (.lp ⟨[(5, .d (.int .i64)), (6, .d (.int .i64))], [(3, true, .box 195 (.st 12))], [0, 2, 4], [0], [], 7⟩ ⟨[(5, .d (.int .i64))], [(3, true, .box 195 (.st 12))], [0, 2, 4], [0], [], 7⟩ true (.s .p (.s (.s .p (.s (.dr [0, 0, 0, 0, 0, 0, 0, 0, 0, 0, 0, 0] [] false []) .p)) .p)))) .p)))) fun _ => by kernel_rfl, by kernel_rfl⟩
def c_182 : Con te := conOf te [.d .str, .d (.int .i64), .d (.int .i64)] [(.int .i64, [])] false fun a => ref07_number a.1 a.2.1 a.2.2.1
theorem ok_182 : OKF 182 c_182 := ⟨conOf_ok eqL_ok tnil_ok Tryz.func182 (by kernel_rfl) (pl := .s .p (.s .p (.s (.s .p (.lp ⟨[(7, .d (.int .i64)), (8, .d .bool), (9, .d (.int .i64))], [], [0, 1], [], [], 6⟩ ⟨[(7, .d (.int .i64)), (8, .d .bool)], [], [], [], [], 6⟩ false (.s .p (.j ⟨[(7, .d (.int .i64)), (8, .d .bool)], [], [0, 1, 9], [], [], 8⟩ false .p .p)))) .p))) fun _ => by kernel_rfl, by kernel_rfl⟩
def c_177 : Con te := conOf te [.d .str, .d (.int .i64)] [(.st 1, []), (.int .i64, []), (.int .i64, [])] false fun a => ref07_Get a.1 a.2.1
theorem ok_177 : OKF 177 c_177 := ⟨conOf_ok eqL_ok (tb_ok ok_164 (tb_ok ok_182 (tb_ok ok_181 tnil_ok))) Tryz.func177 (by kernel_rfl) (pl := .s .p (.s .p (.s .p (.s (.dr [0, 0, 0, 0, 0, 0, 0, 0, 0, 0, 0, 0] [] false []) (.s .p (.s .p (.s .p (.s .p (.s .p (.s .p (.s (.dr [0, 0, 0, 0, 0, 0, 0, 0, 0, 0, 0, 0, 0, 0, 0, 0, 0, 0, 0, 0, 0, 0, 1, 2] [] false []) .p))))))))))) fun _ => by kernel_rfl, by kernel_rfl⟩
def c_158 : Con te := conOf te [.d (.st 11), .g (.st 2) [none, none, none, none, none, none, none, none, none, none, some 9, some 33], .d (.int .i64)] [(.st 11, []), (.st 2, [none, none, none, none, none, none, none, none, none, none, some 9, some 33])] false fun a => ref09_readList a.1 a.2.1 a.2.2.1
theorem ok_158 : OKF 158 c_158 := ⟨conOf_ok eqL_ok (tb_ok ok_177 (tb_ok ok_176 (tb_ok ok_157 (tb_ok ok_110 (tb_ok ok_175 (tb_ok ok_156 tnil_ok)))))) Tryz.func158 (by kernel_rfl) (pl := .s .p (.s .p (.j ⟨[], [(2, true, .box 132 (.st 11)), (4, true, .cells 38 [.v (.int .i64), .v (.int .i64), .v (.int .i64), .v (.int .i64), .v (.int .i64), .v (.int .i64), .v (.int .i64), .v .str, .v .str, .v .str, .own 11, .own 12, .v (.int .i64), .v (.int .i64), .v (.int .i64), .v (.int .i64), .v (.int .i64), .v (.int .i64), .v .str, .v (.int .i64), .v (.int .i64), .v .str, .v (.int .i64), .v (.int .i64), .v (.int .i64), .v (.int .i64), .v (.int .i64), .v (.int .i64), .v (.int .i64), .v (.int .i64), .v (.int .i64), .v .str, .v .str, .v .str, .v .str, .v (.int .i64), .v (.int .i64), .v (.int .i64), .v .str]), (11, false, .row 9 .str []), (12, false, .row 33 (.st 0) [])], [3, 4, 6, 7], [6, 8], [], 13⟩ true (.s .p (.s .p (.s (.s .p (.s .p (.s .p (.s (.dr [0, 0, 0, 0, 0, 0, 0, 0, 0, 0, 1, 1] [] true [6, 8]) .p)))) (.s .p (.s (.s .p (.s .p (.lp ⟨[(13, .d (.int .i64))], [(2, true, .box 132 (.st 11)), (4, true, .cells 38 [.v (.int .i64), .v (.int .i64), .v (.int .i64), .v (.int .i64), .v (.int .i64), .v (.int .i64), .v (.int .i64), .v .str, .v .str, .v .str, .own 25, .own 1, .v (.int .i64), .v (.int .i64), .v (.int .i64), .v (.int .i64), .v (.int .i64), .v (.int .i64), .v .str, .v (.int .i64), .v (.int .i64), .v .str, .v (.int .i64), .v (.int .i64), .v (.int .i64), .v (.int .i64), .v (.int .i64), .v (.int .i64), .v (.int .i64), .v (.int .i64), .v (.int .i64), .v .str, .v .str, .v .str, .v .str, .v (.int .i64), .v (.int .i64), .v (.int .i64), .v .str]), (25, false, .row 9 .str []), (1, true, .row 33 (.st 0) [])], [3, 4, 6, 7, 8], [6, 8], [], 26⟩ ⟨[], [(2, true, .box 132 (.st 11)), (4, true, .cells 38 [.v (.int .i64), .v (.int .i64), .v (.int .i64), .v (.int .i64), .v (.int .i64), .v (.int .i64), .v (.int .i64), .v .str, .v .str, .v .str, .own 25, .own 1, .v (.int .i64), .v (.int .i64), .v (.int .i64), .v (.int .i64), .v (.int .i64), .v (.int .i64), .v .str, .v (.int .i64), .v (.int .i64), .v .str, .v (.int .i64), .v (.int .i64), .v (.int .i64), .v (.int .i64), .v (.int .i64), .v (.int .i64), .v (.int .i64), .v (.int .i64), .v (.int .i64), .v .str, .v .str, .v .str, .v .str, .v (.int .i64), .v (.int .i64), .v (.int .i64), .v .str]), (25, false, .row 9 .str []), (1, true, .row 33 (.st 0) [])], [3, 4, 6, 7], [6, 8], [], 26⟩ false .p))) (.s .p (.s (.s .p (.s .p (.lp ⟨[(16, .d (.int .i64))], [(2, true, .box 132 (.st 11)), (4, true, .cells 38 [.v (.int .i64), .v (.int .i64), .v (.int .i64), .v (.int .i64), .v (.int .i64), .v (.int .i64), .v (.int .i64), .v .str, .v .str, .v .str, .own 0, .own 27, .v (.int .i64), .v (.int .i64), .v (.int .i64), .v (.int .i64), .v (.int .i64), .v (.int .i64), .v .str, .v (.int .i64), .v (.int .i64), .v .str, .v (.int .i64), .v (.int .i64), .v (.int .i64), .v (.int .i64), .v (.int .i64), .v (.int .i64), .v (.int .i64), .v (.int .i64), .v (.int .i64), .v .str, .v .str, .v .str, .v .str, .v (.int .i64), .v (.int .i64), .v (.int .i64), .v .str]), (0, true, .row 9 .str []), (27, false, .row 33 (.st 0) [])], [3, 4, 6, 7, 8], [6, 8], [], 28⟩ ⟨[], [(2, true, .box 132 (.st 11)), (4, true, .cells 38 [.v (.int .i64), .v (.int .i64), .v (.int .i64), .v (.int .i64), .v (.int .i64), .v (.int .i64), .v (.int .i64), .v .str, .v .str, .v .str, .own 0, .own 27, .v (.int .i64), .v (.int .i64), .v (.int .i64), .v (.int .i64), .v (.int .i64), .v (.int .i64), .v .str, .v (.int .i64), .v (.int .i64), .v .str, .v (.int .i64), .v (.int .i64), .v (.int .i64), .v (.int .i64), .v (.int .i64), .v (.int .i64), .v (.int .i64), .v (.int .i64), .v (.int .i64), .v .str, .v .str, .v .str, .v .str, .v (.int .i64), .v (.int .i64), .v (.int .i64), .v .str]), (0, true, .row 9 .str []), (27, false, .row 33 (.st 0) [])], [3, 4, 6, 7], [6, 8], [], 28⟩ false .p))) (.s .p (.s .p (.s .p (.s (.s .p (.s .p (.s .p (.s .p (.s (.dr [0, 0, 0, 0, 0, 0, 0, 0, 0, 0, 0, 0, 0, 0, 0, 1, 1] [] true [6, 8]) .p))))) .p))))))))))) (.s (.dr [0, 0, 1, 1] [] true [6, 8]) .p)))) fun _ => by kernel_rfl, by kernel_rfl⟩
end
end Go.Proofs.YtolgkhjkdadhiaaGreat
namespace Go.Proofs.YtolgkhjkdadhiaaGreat
open Go.Rt Go.RowKit
noncomputable section
def c_111 : Con te := conOf te [.d (.st 11), .g (.st 2) [none, none, none, none, none, none, none, none, none, none, some 9, some 33], .d (.int .i64)] [(.st 11, []), (.st 2, [none, none, none, none, none, none, none, none, none, none, some 9, some 33])] false fun a => ref09_read a.1 a.2.1 a.2.2.1
theorem ok_111 : OKF 111 c_111 := ⟨conOf_ok eqL_ok (tb_ok ok_158 (tb_ok ok_157 (tb_ok ok_156 (tb_ok ok_110 tnil_ok)))) Tryz.func111 (by kernel_rfl) (pl := .s .p (.j ⟨[], [(2, true, .box 132 (.st 11)), (4, true, .cells 38 [.v (.int .i64), .v (.int .i64), .v (.int .i64), .v (.int .i64), .v (.int .i64), .v (.int .i64), .v (.int .i64), .v .str, .v .str, .v .str, .own 0, .own 1, .v (.int .i64), .v (.int .i64), .v (.int .i64), .v (.int .i64), .v (.int .i64), .v (.int .i64), .v .str, .v (.int .i64), .v (.int .i64), .v .str, .v (.int .i64), .v (.int .i64), .v (.int .i64), .v (.int .i64), .v (.int .i64), .v (.int .i64), .v (.int .i64), .v (.int .i64), .v (.int .i64), .v .str, .v .str, .v .str, .v .str, .v (.int .i64), .v (.int .i64), .v (.int .i64), .v .str]), (0, true, .row 9 .str []), (1, true, .row 33 (.st 0) [])], [3, 4, 6, 7], [6, 8], [], 10⟩ true .p (.s (.dr [0, 0, 1, 1] [] true [6, 8]) .p))) fun _ => by kernel_rfl, by kernel_rfl⟩
def c_69 : Con te := conOf te [.d .str, .d (.int .i64)] [(.st 2, [none, none, none, none, none, none, none, none, none, none, some 9, some 33]), (.int .i64, []), (.int .i64, [])] false fun a => ref09_Get a.1 a.2.1
theorem ok_69 : OKF 69 c_69 := ⟨conOf_ok eqL_ok (tb_ok ok_52 (tb_ok ok_111 (tb_ok ok_53 (tb_ok ok_110 (tb_ok ok_68 tnil_ok))))) Tryz.func69 (by kernel_rfl) (pl := .s .p (.s .p (.s .p (.s .p (.s .p (.s .p (.s .p (.s .p (.s .p (.s .p (.s .p (.s .p (.s .p (.s (.s .p (.lp ⟨[(17, .d (.int .i64))], [(5029, true, .cells 38 [.v (.int .i64), .v (.int .i64), .v (.int .i64), .v (.int .i64), .v (.int .i64), .v (.int .i64), .v (.int .i64), .v .str, .v .str, .v .str, .own 5074, .own 5075, .v (.int .i64), .v (.int .i64), .v (.int .i64), .v (.int .i64), .v (.int .i64), .v (.int .i64), .v .str, .v (.int .i64), .v (.int .i64), .v .str, .v (.int .i64), .v (.int .i64), .v (.int .i64), .v (.int .i64), .v (.int .i64), .v (.int .i64), .v (.int .i64), .v (.int .i64), .v (.int .i64), .v .str, .v .str, .v .str, .v .str, .v (.int .i64), .v (.int .i64), .v (.int .i64), .v .str]), (5074, false, .row 9 .str []), (5075, false, .row 33 (.st 0) []), (5053, true, .box 132 (.st 11))], [1, 4, 7, 10, 13, 15, 16], [0], [], 5076⟩ ⟨[], [(5029, true, .cells 38 [.v (.int .i64), .v (.int .i64), .v (.int .i64), .v (.int .i64), .v (.int .i64), .v (.int .i64), .v (.int .i64), .v .str, .v .str, .v .str, .own 5074, .own 5075, .v (.int .i64), .v (.int .i64), .v (.int .i64), .v (.int .i64), .v (.int .i64), .v (.int .i64), .v .str, .v (.int .i64), .v (.int .i64), .v .str, .v (.int .i64), .v (.int .i64), .v (.int .i64), .v (.int .i64), .v (.int .i64), .v (.int .i64), .v (.int .i64), .v (.int .i64), .v (.int .i64), .v .str, .v .str, .v .str, .v .str, .v (.int .i64), .v (.int .i64), .v (.int .i64), .v .str]), (5074, false, .row 9 .str []), (5075, false, .row 33 (.st 0) []), (5053, true, .box 132 (.st 11))], [1, 4, 7, 10, 13, 16], [0], [], 5076⟩ false (.s .p (.s (.dr [0, 0, 0, 0, 0, 0, 2, 4, 4, 4, 2, 2] [] false []) .p)))) .p)))))))))))))) fun _ => by kernel_rfl, by kernel_rfl⟩
def c_37 : Con te := conOf te [.d .str, .d (.int .i64)] [(.sl (.st 2), [some 38]), (.str, []), (.int .i64, [])] true fun a => ref09_Split a.1 a.2.1
theorem ok_37 : OKF 37 c_37 := ⟨conOf_ok eqL_ok (tb_ok ok_69 (tb_ok ok_68 tnil_ok)) Tryz.func37 (by kernel_rfl) (pl := .s .p (.s .p (.j ⟨[(7, .d (.int .i64))], [], [0], [], [], 5⟩ false .p (.s .p (.s .p (.s (.lp ⟨[(8, .one (.own 8)), (9, .d .str)], [(8, false, .row 38 (.st 2) [])], [7], [], [], 9⟩ ⟨[(8, .one (.own 8)), (9, .d .str)], [(8, false, .row 38 (.st 2) [])], [], [], [], 9⟩ true .p) .p)))))) fun _ => by kernel_rfl, by kernel_rfl⟩
def c_13 : Con te := conOf te [.d (.st 4)] [(.bool, [])] false fun a => ref38_Right a.1
theorem ok_13 : OKF 13 c_13 := ⟨conOf_ok eqL_ok (tb_ok ok_37 (tb_ok ok_36 tnil_ok)) Tryz.func13 (by kernel_rfl) (pl := .s .p (.s .p (.s (.s .p (.lp ⟨[(3, .d (.int .i64))], [], [1], [0], [], 24011⟩ ⟨[], [], [1], [0], [], 24011⟩ true (.s .p (.s (.s (.dr [0, 0, 0, 0, 0, 0, 0, 0, 0, 0, 0, 0, 0, 0, 0, 0, 0, 0, 0, 0, 0, 0, 0, 0, 0, 0, 0, 0, 0, 0, 0, 0] [] false []) .p) .p)))) .p))) fun _ => by kernel_rfl, by kernel_rfl⟩
def c_16 : Con te := conOf te [] [(.st 4, [])] true fun _ => ref38_New
theorem ok_16 : OKF 16 c_16 := ⟨conOf_ok eqL_ok tnil_ok Tryz.func16 (by kernel_rfl) (pl := .p) fun _ => by kernel_rfl, by kernel_rfl⟩
def c_38 : Con te := conOf te [.d (.st 2), .d (.st 2)] [(.bool, [])] false fun a => ref08_Same a.1 a.2.1
theorem ok_38 : OKF 38 c_38 := ⟨conOf_ok eqL_ok tnil_ok Tryz.func38 (by kernel_rfl) (pl := .s .p (.s .p (.s (.s .p (.lp ⟨[(28, .d (.int .i64))], [], [2, 3, 27], [0, 2], [], 8017⟩ ⟨[], [], [2, 3], [0, 2], [], 8017⟩ true (.s .p (.s .p (.s (.s .p (.s (.dr [0, 0, 0, 0, 0, 0, 0, 0, 0, 0, 0] [] false []) .p)) .p))))) (.s (.s .p (.lp ⟨[(46, .d (.int .i64))], [], [2, 3, 45], [0, 2], [], 8021⟩ ⟨[], [], [2, 3], [0, 2], [], 8021⟩ true (.s .p (.s .p (.s (.s .p (.s (.dr [0, 0, 0, 0, 0, 0, 0, 0, 0, 0, 0] [] false []) .p)) .p))))) .p)))) fun _ => by kernel_rfl, by kernel_rfl⟩
def c_14 : Con te := conOf te [.d (.st 4), .d (.st 4)] [(.bool, [])] false fun a => ref38_Same a.1 a.2.1
theorem ok_14 : OKF 14 c_14 := ⟨conOf_ok eqL_ok (tb_ok ok_38 tnil_ok) Tryz.func14 (by kernel_rfl) (pl := .s .p (.s .p (.s (.s .p (.lp ⟨[(5, .d (.int .i64))], [], [2, 3], [0, 2], [], 34016⟩ ⟨[], [], [2, 3], [0, 2], [], 34016⟩ true (.s .p (.s (.s (.dr [0, 0, 0, 0, 0, 0, 0, 0, 0, 0, 0] [] false []) .p) .p)))) (.s (.s .p (.lp ⟨[(6, .d (.int .i64))], [], [2, 3], [0, 2], [], 34017⟩ ⟨[], [], [], [], [], 34017⟩ true (.s .p (.s (.s (.dr [0, 0, 0, 0, 0, 0, 0, 0, 0, 0, 0, 0, 0, 0, 0, 0, 0, 0, 0, 0, 0, 0, 0, 0, 0, 0, 0, 0, 0] [] false []) .p) .p)))) .p)))) fun _ => by kernel_rfl, by kernel_rfl⟩
def c_3 : Con te := conOf te [.d (.st 4)] [(.bool, [])] false fun a => law38_RpcRight a.1
theorem ok_3 : OKF 3 c_3 := ⟨conOf_ok eqL_ok (tb_ok ok_14 (tb_ok ok_16 (tb_ok ok_15 (tb_ok ok_13 (tb_ok ok_12 (tb_ok ok_11 (tb_ok ok_10 tnil_ok))))))) Tryz.func3 (by kernel_rfl) (pl := .s .p (.s .p (.s (.sq 3) .p))) fun _ => by kernel_rfl, by kernel_rfl⟩
def c_46 : Con te := conOf te [.d (.sl (.st 3))] [(.int .i64, [])] false fun a => ref38_tag a.1
theorem ok_46 : OKF 46 c_46 := ⟨conOf_ok eqL_ok (tb_ok ok_67 (tb_ok ok_45 tnil_ok)) Tryz.func46 (by kernel_rfl) (pl := .s .p (.s (.s .p (.lp ⟨[(3, .d (.int .i64))], [], [0], [], [], 2⟩ ⟨[], [], [], [], [], 2⟩ true .p)) .p)) fun _ => by kernel_rfl, by kernel_rfl⟩
def c_56 : Con te := conOf te [.d (.int .i64), .d (.int .i64)] [(.str, []), (.int .i64, [])] false fun a => ref02_Put a.1 a.2.1
theorem ok_56 : OKF 56 c_56 := ⟨conOf_ok eqL_ok (tb_ok ok_97 tnil_ok) Tryz.func56 (by kernel_rfl) (pl := .s .p (.s .p (.s .p (.s .p (.s (.s .p (.lp ⟨[(6, .d .str), (7, .d (.int .i64)), (8, .d (.int .i64))], [], [1], [], [], 9⟩ ⟨[(6, .d .str), (7, .d (.int .i64))], [], [], [], [], 9⟩ false .p)) .p))))) fun _ => by kernel_rfl, by kernel_rfl⟩
def c_54 : Con te := conOf te [.d (.st 13), .d (.int .i64), .d (.int .i64)] [(.st 13, [])] false fun a => ref09_num a.1 a.2.1 a.2.2.1
theorem ok_54 : OKF 54 c_54 := ⟨conOf_ok eqL_ok (tb_ok ok_56 tnil_ok) Tryz.func54 (by kernel_rfl) (pl := .s .p (.s .p (.j ⟨[], [(0, true, .box 84 (.st 13))], [3, 6], [2], [], 12⟩ false .p .p))) fun _ => by kernel_rfl, by kernel_rfl⟩
def c_130 : Con te := conOf te [.d .str] [(.str, []), (.int .i64, [])] false fun a => ref02_PutText a.1
theorem ok_130 : OKF 130 c_130 := ⟨conOf_ok eqL_ok (tb_ok ok_56 tnil_ok) Tryz.func130 (by kernel_rfl) (pl := .p) fun _ => by kernel_rfl, by kernel_rfl⟩
def c_93 : Con te := conOf te [.d (.st 13), .d .str] [(.st 13, [])] false fun a => ref09_text a.1 a.2.1
theorem ok_93 : OKF 93 c_93 := ⟨conOf_ok eqL_ok (tb_ok ok_130 tnil_ok) Tryz.func93 (by kernel_rfl) (pl := .s .p (.s .p (.j ⟨[], [(0, true, .box 84 (.st 13))], [2, 4], [2], [], 11⟩ false .p .p))) fun _ => by kernel_rfl, by kernel_rfl⟩
def c_94 : Con te := conOf te [.d (.st 13), .d (.st 0)] [(.st 13, [])] false fun a => ref09_qid a.1 a.2.1
theorem ok_94 : OKF 94 c_94 := ⟨conOf_ok eqL_ok (tb_ok ok_54 tnil_ok) Tryz.func94 (by kernel_rfl) (pl := .s .p (.s (.dr [0, 0, 0, 0, 0, 0, 0, 0, 0, 0, 2] [] false []) .p)) fun _ => by kernel_rfl, by kernel_rfl⟩
def c_95 : Con te := conOf te [.d (.int .i64)] [(.str, [])] false fun a => ref04_Text a.1
theorem ok_95 : OKF 95 c_95 := ⟨conOf_ok eqL_ok (tb_ok ok_131 tnil_ok) Tryz.func95 (by kernel_rfl) (pl := .p) fun _ => by kernel_rfl, by kernel_rfl⟩
def c_165 : Con te := conOf te [.d (.int .i64), .d (.int .i64)] [(.str, [])] false fun a => ref07_little a.1 a.2.1
theorem ok_165 : OKF 165 c_165 := ⟨conOf_ok eqL_ok tnil_ok Tryz.func165 (by kernel_rfl) (pl := .s .p (.s .p (.s (.s .p (.lp ⟨[(5, .d .str), (6, .d (.int .i64))], [], [0, 1], [], [], 3⟩ ⟨[(5, .d .str)], [], [], [], [], 3⟩ false .p)) .p))) fun _ => by kernel_rfl, by kernel_rfl⟩
def c_166 : Con te := conOf te [.d .str] [(.str, [])] false fun a => ref07_counted a.1
theorem ok_166 : OKF 166 c_166 := ⟨conOf_ok eqL_ok (tb_ok ok_165 tnil_ok) Tryz.func166 (by kernel_rfl) (pl := .p) fun _ => by kernel_rfl, by kernel_rfl⟩
def c_132 : Con te := conOf te [.d (.st 1)] [(.str, []), (.int .i64, [])] false fun a => ref07_Put a.1
theorem ok_132 : OKF 132 c_132 := ⟨conOf_ok eqL_ok (tb_ok ok_166 (tb_ok ok_165 (tb_ok ok_164 tnil_ok))) Tryz.func132 (by kernel_rfl) (pl := .s .p (.s .p (.s (.dr [0, 0, 0, 0, 0, 0, 0, 0, 0, 0, 0, 0, 0, 0, 0] [] false []) (.s (.dr [0, 0, 0, 0, 0, 0, 0, 0, 0, 0, 0, 0, 0, 0, 0, 0, 0, 0, 0, 0, 0, 0, 0, 0, 0, 0] [] false []) (.s (.dr [0, 0, 0, 0, 0, 0, 0, 0, 0, 0, 0, 0, 0, 0, 0, 0, 0, 0] [] false []) .p))))) fun _ => by kernel_rfl, by kernel_rfl⟩
def c_96 : Con te := conOf te [.d (.st 13), .d (.st 2), .d (.int .i64)] [(.st 13, [])] false fun a => ref09_list a.1 a.2.1 a.2.2.1
theorem ok_96 : OKF 96 c_96 := ⟨conOf_ok eqL_ok (tb_ok ok_132 (tb_ok ok_94 (tb_ok ok_93 (tb_ok ok_54 tnil_ok)))) Tryz.func96 (by kernel_rfl) (pl := .s .p (.j ⟨[], [(0, true, .box 84 (.st 13))], [3, 6], [4], [], 6⟩ false (.s .p (.s .p (.s (.s .p (.s .p (.lp ⟨[(7, .d (.int .i64))], [(0, true, .box 84 (.st 13))], [3, 4, 6], [2, 4], [], 17⟩ ⟨[], [(0, true, .box 84 (.st 13))], [3, 6], [4], [], 17⟩ false (.s .p (.s (.dr [0, 0, 0, 0, 0, 0, 0, 2] [] false []) .p))))) (.s .p (.s (.s .p (.s .p (.lp ⟨[(8, .d (.int .i64))], [(0, true, .box 84 (.st 13))], [3, 4, 6], [2, 4], [], 19⟩ ⟨[], [(0, true, .box 84 (.st 13))], [3, 6], [4], [], 19⟩ false (.s .p (.s (.dr [0, 0, 0, 0, 0, 0, 0, 2] [] false []) .p))))) (.s .p (.s .p (.s .p (.s (.s .p (.j ⟨[], [(0, true, .box 84 (.st 13))], [3, 6, 9], [4], [], 23⟩ false .p .p)) .p))))))))) .p)) fun _ => by kernel_rfl, by kernel_rfl⟩
def c_55 : Con te := conOf te [.d (.st 13), .d (.st 2), .d (.int .i64)] [(.st 13, [])] false fun a => ref09_field a.1 a.2.1 a.2.2.1
theorem ok_55 : OKF 55 c_55 := ⟨conOf_ok eqL_ok (tb_ok ok_96 (tb_ok ok_95 (tb_ok ok_94 (tb_ok ok_93 (tb_ok ok_54 tnil_ok))))) Tryz.func55 (by kernel_rfl) (pl := .s .p (.s (.s .p (.s .p (.s .p (.s .p (.s .p (.s .p (.s .p (.s .p (.s .p (.s .p (.s .p (.s .p (.s .p (.s .p (.s .p (.s .p (.s .p (.s .p (.s (.s (.dr [0, 0, 0, 0, 0, 2] [] false []) .p) .p))))))))))))))))))) .p)) fun _ => by kernel_rfl, by kernel_rfl⟩
def c_25 : Con te := conOf te [.d (.st 2)] [(.str, []), (.int .i64, [])] false fun a => ref09_Put a.1
theorem ok_25 : OKF 25 c_25 := ⟨conOf_ok eqL_ok (tb_ok ok_56 (tb_ok ok_55 (tb_ok ok_54 (tb_ok ok_53 (tb_ok ok_52 tnil_ok))))) Tryz.func25 (by kernel_rfl) (pl := .s .p (.s .p (.s .p (.s (.dr [0, 0, 0, 0, 0, 0, 0, 1, 2] [] false []) (.s (.s .p (.lp ⟨[(8, .d (.int .i64))], [(24, true, .box 84 (.st 13))], [1, 5, 7], [0], [], 29⟩ ⟨[], [(24, true, .box 84 (.st 13))], [7], [], [], 29⟩ false (.s .p (.s (.dr [0, 0, 0, 0, 0, 0, 0, 2] [] false []) .p)))) (.s (.s .p (.s (.s (.dr [0, 0, 0, 0] [] false []) .p) .p)) .p)))))) fun _ => by kernel_rfl, by kernel_rfl⟩
def c_47 : Con te := conOf te [.d (.st 4), .d (.st 2)] [(.st 4, [none, none, none, none, some 63])] true fun a => ref38_added a.1 a.2.1
theorem ok_47 : OKF 47 c_47 := ⟨conOf_ok eqL_ok tnil_ok Tryz.func47 (by kernel_rfl) (pl := .p) fun _ => by kernel_rfl, by kernel_rfl⟩
def c_19 : Con te := conOf te [.d (.st 4), .d (.st 2)] [(.st 4, []), (.int .i64, []), (.str, []), (.int .i64, [])] true fun a => ref38_Start a.1 a.2.1
theorem ok_19 : OKF 19 c_19 := ⟨conOf_ok eqL_ok (tb_ok ok_47 (tb_ok ok_25 (tb_ok ok_46 (tb_ok ok_45 (tb_ok ok_26 tnil_ok))))) Tryz.func19 (by kernel_rfl) (pl := .s .p (.s .p (.s .p (.s .p (.s .p (.s .p (.j ⟨[], [(2, true, .box 38 (.st 2))], [2, 3, 4], [0, 4], [], 14032⟩ false .p (.s .p (.s .p (.s .p (.s (.dr [0, 0, 1, 0, 0, 0, 1, 4, 4, 4] [3, 5, 4] true [4]) .p))))))))))) fun _ => by kernel_rfl, by kernel_rfl⟩
def c_4 : Con te := conOf te [.d (.st 4), .d (.st 2)] [(.bool, [])] false fun a => law38_RpcStarts a.1 a.2.1
theorem ok_4 : OKF 4 c_4 := ⟨conOf_ok eqL_ok (tb_ok ok_12 (tb_ok ok_14 (tb_ok ok_19 (tb_ok ok_18 (tb_ok ok_11 (tb_ok ok_13 (tb_ok ok_17 (tb_ok ok_10 tnil_ok)))))))) Tryz.func4 (by kernel_rfl) (pl := .p) fun _ => by kernel_rfl, by kernel_rfl⟩
def c_21 : Con te := conOf te [.d (.st 4), .d (.int .i64)] [(.st 4, []), (.int .i64, []), (.str, []), (.int .i64, [])] true fun a => ref38_Flush a.1 a.2.1
theorem ok_21 : OKF 21 c_21 := ⟨conOf_ok eqL_ok (tb_ok ok_25 (tb_ok ok_47 (tb_ok ok_46 (tb_ok ok_45 tnil_ok)))) Tryz.func21 (by kernel_rfl) (pl := .s .p (.s .p (.s .p (.s .p (.s .p (.s .p (.s .p (.s .p (.s .p (.s .p (.s (.dr [0, 0, 0, 0, 1, 4, 4, 4] [] true [2]) .p))))))))))) fun _ => by kernel_rfl, by kernel_rfl⟩
def c_5 : Con te := conOf te [.d (.st 4), .d (.int .i64)] [(.bool, [])] false fun a => law38_RpcFlushes a.1 a.2.1
theorem ok_5 : OKF 5 c_5 := ⟨conOf_ok eqL_ok (tb_ok ok_12 (tb_ok ok_14 (tb_ok ok_21 (tb_ok ok_20 (tb_ok ok_11 (tb_ok ok_13 (tb_ok ok_10 tnil_ok))))))) Tryz.func5 (by kernel_rfl) (pl := .p) fun _ => by kernel_rfl, by kernel_rfl⟩
def c_59 : Con te := conOf te [.d (.st 2), .d (.int .i64)] [(.st 2, [])] true fun a => ref08_Fail a.1 a.2.1
theorem ok_59 : OKF 59 c_59 := ⟨conOf_ok eqL_ok tnil_ok Tryz.func59 (by kernel_rfl) (pl := .p) fun _ => by kernel_rfl, by kernel_rfl⟩
def c_28 : Con te := conOf te [.d (.st 4)] [(.st 4, []), (.sl (.st 2), [some 38])] true fun a => ref38_Lose a.1
theorem ok_28 : OKF 28 c_28 := ⟨conOf_ok eqL_ok (tb_ok ok_59 tnil_ok) Tryz.func28 (by kernel_rfl) (pl := .s .p (.s .p (.s .p (.s (.s .p (.lp ⟨[(4, .one (.own 10)), (5, .d (.int .i64))], [(10, false, .row 38 (.st 2) [])], [1, 2], [0, 2], [], 11⟩ ⟨[(4, .one (.own 10))], [(10, false, .row 38 (.st 2) [])], [1, 2], [0, 2], [], 11⟩ false .p)) .p)))) fun _ => by kernel_rfl, by kernel_rfl⟩
def c_122 : Con te := conOf te [.d (.int .i64)] [(.int .i64, [])] false fun a => ref08_Reply a.1
theorem ok_122 : OKF 122 c_122 := ⟨conOf_ok eqL_ok (tb_ok ok_26 tnil_ok) Tryz.func122 (by kernel_rfl) (pl := .p) fun _ => by kernel_rfl, by kernel_rfl⟩
def c_86 : Con te := conOf te [.d (.st 2), .d (.st 2)] [(.bool, [])] false fun a => ref08_Answers a.1 a.2.1
theorem ok_86 : OKF 86 c_86 := ⟨conOf_ok eqL_ok (tb_ok ok_122 (tb_ok ok_26 tnil_ok)) Tryz.func86 (by kernel_rfl) (pl := .s .p (.s .p (.s .p (.s (.s (.dr [0, 0, 0, 0, 0, 0] [] false []) .p) .p)))) fun _ => by kernel_rfl, by kernel_rfl⟩
def c_87 : Con te := conOf te [.d (.sl (.st 3)), .d (.int .i64)] [(.sl (.st 3), [some 63])] true fun a => ref38_without a.1 a.2.1
theorem ok_87 : OKF 87 c_87 := ⟨conOf_ok eqL_ok tnil_ok Tryz.func87 (by kernel_rfl) (pl := .p) fun _ => by kernel_rfl, by kernel_rfl⟩
def c_51 : Con te := conOf te [.d (.st 4), .d (.st 2)] [(.st 4, []), (.sl (.st 2), [some 38]), (.int .i64, [])] true fun a => ref38_take a.1 a.2.1
theorem ok_51 : OKF 51 c_51 := ⟨conOf_ok eqL_ok (tb_ok ok_59 (tb_ok ok_87 (tb_ok ok_86 (tb_ok ok_45 tnil_ok)))) Tryz.func51 (by kernel_rfl) (pl := .s .p (.s .p (.s .p (.s .p (.s .p (.j ⟨[], [(0, true, .box 25 (.st 4))], [2, 3, 4, 7, 8], [2, 4, 22], [], 30⟩ true .p (.s .p (.s .p (.s .p (.j ⟨[(10, .d (.int .i64))], [], [2, 3, 4, 9], [0, 2, 4, 33], [], 40⟩ false .p (.j ⟨[(9, .one (.own 41))], [(0, true, .cells 25 [.v .bool, .v (.int .i64), .v .str, .v (.sl (.int .i64)), .own 40, .v .str]), (40, false, .row 63 (.st 3) []), (41, false, .row 38 (.st 2) [])], [2, 3, 4, 10], [2, 4], [], 42⟩ false .p (.j ⟨[], [(40, true, .row 63 (.st 3) [])], [2, 3, 4, 9], [0, 2, 4, 41], [], 42⟩ false .p (.s (.dr [0, 0, 0, 1, 1, 1, 4, 4] [] true [4, 41]) .p))))))))))))) fun _ => by kernel_rfl, by kernel_rfl⟩
def c_23 : Con te := conOf te [.d (.st 4), .d .str] [(.st 4, []), (.sl (.st 2), [some 38]), (.int .i64, [])] true fun a => ref38_Receive a.1 a.2.1
theorem ok_23 : OKF 23 c_23 := ⟨conOf_ok eqL_ok (tb_ok ok_51 (tb_ok ok_28 (tb_ok ok_37 tnil_ok))) Tryz.func23 (by kernel_rfl) (pl := .s .p (.s .p (.s .p (.s .p (.s .p (.s (.s .p (.lp ⟨[(12, .one (.own 28)), (13, .d (.int .i64))], [(0, true, .box 25 (.st 4)), (15, true, .row 38 (.st 2) []), (28, false, .row 38 (.st 2) [])], [2, 4, 7, 8], [2], [], 29⟩ ⟨[(12, .one (.own 28))], [(0, true, .box 25 (.st 4)), (28, false, .row 38 (.st 2) [])], [2, 4, 8], [2], [], 29⟩ true (.s .p (.s (.s (.df [0, 0, 0, 0, 0, 1, 4, 4, 4, 4, 1, 2, 4, 4] [] 5) (.s (.s .p (.s (.s .p (.s (.dr [0, 0, 0, 1, 0, 1, 4, 4] [4] true [2, 28, 54]) .p)) .p)) .p)) .p)))) (.s (.s .p (.s .p (.s (.s .p (.s (.dr [0, 0, 0, 1, 0, 1, 4, 4] [4] true [2, 28, 44]) .p)) .p))) .p))))))) fun _ => by kernel_rfl, by kernel_rfl⟩
def c_24 : Con te := conOf te [.d (.sl (.st 2)), .d (.sl (.st 2))] [(.bool, [])] false fun a => ref38_SameMsgs a.1 a.2.1
theorem ok_24 : OKF 24 c_24 := ⟨conOf_ok eqL_ok (tb_ok ok_38 tnil_ok) Tryz.func24 (by kernel_rfl) (pl := .s .p (.s .p (.s (.s .p (.lp ⟨[(5, .d (.int .i64))], [], [0, 1], [], [], 7⟩ ⟨[], [], [], [], [], 7⟩ true (.s .p (.s (.s (.dr [0, 0, 0, 0, 0, 0, 0, 0, 0, 0] [] false []) .p) .p)))) .p))) fun _ => by kernel_rfl, by kernel_rfl⟩
def c_6 : Con te := conOf te [.d (.st 4), .d .str] [(.bool, [])] false fun a => law38_RpcReceives a.1 a.2.1
theorem ok_6 : OKF 6 c_6 := ⟨conOf_ok eqL_ok (tb_ok ok_12 (tb_ok ok_24 (tb_ok ok_14 (tb_ok ok_23 (tb_ok ok_22 (tb_ok ok_11 (tb_ok ok_13 (tb_ok ok_10 tnil_ok)))))))) Tryz.func6 (by kernel_rfl) (pl := .p) fun _ => by kernel_rfl, by kernel_rfl⟩
end
end Go.Proofs.YtolgkhjkdadhiaaGreat
namespace Go
namespace Rt
theorem w64_eq {n : Int} (h : I64 n) : w64 n = n := by
 unfold w64; rw [IntKind.wrap_i64]; omega
theorem wi64_eq {n : Int} (h : I64 n) : IntKind.i64.wrap n = n := w64_eq h
theorem wu8 (n : Int) : IntKind.u8.wrap n = n % 256 := IntKind.wrap_u8 n
theorem wu64 (n : Int) : IntKind.u64.wrap n = n % 18446744073709551616 := by simp [IntKind.wrap, IntKind.bits, IntKind.signed]
theorem ofInt_nat {a : Nat} (ha : a < 2 ^ 64) : (BitVec.ofInt 64 (a : Int)).toNat = a := by
 rw [BitVec.toNat_ofInt]
 have : ((a : Int) % ((2 ^ 64 : Nat) : Int)) = ((a % 2 ^ 64 : Nat) : Int) := by omega
 rw [this]
 simp
 omega
theorem andI_nat {a b : Nat} (ha : a < 2 ^ 63) (hb : b < 2 ^ 63) : andI .i64 a b = ((a &&& b : Nat) : Int) := by
 have h1 : a &&& b < 2 ^ 63 := Nat.and_lt_two_pow a hb
 show IntKind.i64.wrap (((BitVec.ofInt 64 (a : Int) &&& BitVec.ofInt 64 (b : Int)).toNat : Nat) : Int) = _
 rw [BitVec.toNat_and, ofInt_nat (by omega), ofInt_nat (by omega)]
 exact wi64_eq ⟨by omega, by omega⟩
theorem orI_u64 {a b : Nat} (ha : a < 2 ^ 64) (hb : b < 2 ^ 64) : orI .u64 a b = ((a ||| b : Nat) : Int) := by
 have h1 : a ||| b < 2 ^ 64 := Nat.or_lt_two_pow ha hb
 show IntKind.u64.wrap (((BitVec.ofInt 64 (a : Int) ||| BitVec.ofInt 64 (b : Int)).toNat : Nat) : Int) = _
 rw [BitVec.toNat_or, ofInt_nat ha, ofInt_nat hb, wu64]
 omega
theorem andNotI_nat {a b : Nat} (ha : a < 2 ^ 63) (hb : b < 2 ^ 63) : andNotI .i64 a b = ((a &&& (2 ^ 64 - 1 - b) : Nat) : Int) := by
 have h1 : a &&& (2 ^ 64 - 1 - b) < 2 ^ 63 := Nat.lt_of_le_of_lt Nat.and_le_left ha
 show IntKind.i64.wrap (((BitVec.ofInt 64 (a : Int) &&& ~~~(BitVec.ofInt 64 (b : Int))).toNat : Nat) : Int) = _
 rw [BitVec.toNat_and, BitVec.toNat_not, ofInt_nat (by omega), ofInt_nat (by omega)]
 exact wi64_eq ⟨by omega, by omega⟩
theorem andNot_zero {a b : Nat} (ha : a < 2 ^ 63) (hb : b < 2 ^ 63) : (andNotI .i64 a b == 0) = (andI .i64 a b == a) := by
 rw [andNotI_nat ha hb, andI_nat ha hb]
 rw [Bool.eq_iff_iff]
 simp only [beq_iff_eq]
 constructor
 ·intro h
  have h' : a &&& (2 ^ 64 - 1 - b) = 0 := by omega
  have : a &&& b = a := by
   apply Nat.eq_of_testBit_eq
   intro i
   have hi := congrArg (fun n => n.testBit i) h'
   simp only [Nat.testBit_and, Nat.zero_testBit] at hi ⊢
   by_cases hi64 : i < 64
   ·rw [show 2 ^ 64 - 1 - b = 2 ^ 64 - (b + 1) by omega, Nat.testBit_two_pow_sub_succ (by omega)] at hi
    simp only [hi64, decide_true, Bool.true_and] at hi
    cases h1 : a.testBit i <;> cases h2 : b.testBit i <;> simp_all
   ·have : a.testBit i = false := Nat.testBit_lt_two_pow (Nat.lt_of_lt_of_le ha (Nat.pow_le_pow_right (by omega) (by omega)))
    simp [this]
  omega
 ·intro h
  have h' : a &&& b = a := by omega
  have : a &&& (2 ^ 64 - 1 - b) = 0 := by
   apply Nat.eq_of_testBit_eq
   intro i
   have hi := congrArg (fun n => n.testBit i) h'
   simp only [Nat.testBit_and, Nat.zero_testBit] at hi ⊢
   by_cases hi64 : i < 64
   ·rw [show 2 ^ 64 - 1 - b = 2 ^ 64 - (b + 1) by omega, Nat.testBit_two_pow_sub_succ (by omega)]
    simp only [hi64, decide_true, Bool.true_and]
    cases h1 : a.testBit i <;> cases h2 : b.testBit i <;> simp_all
   ·have : a.testBit i = false := Nat.testBit_lt_two_pow (Nat.lt_of_lt_of_le ha (Nat.pow_le_pow_right (by omega) (by omega)))
    simp [this]
  omega
theorem and_le {a b : Nat} (h : a &&& b = a) : a ≤ b := by
 rw [← h]; exact Nat.and_le_right
theorem bind_eq {α β : Type} {x : Option α} {a : α} {f : α → Option β} {r : Option β} (h : x = some a) (hr : f a = r) : x.bind f = r := by subst h; exact hr
theorem cond_t {α : Type} {c : Bool} {A B r : α} (hc : c = true) (h : A = r) : (bif c then A else B) = r := by subst hc; exact h
theorem cond_f {α : Type} {c : Bool} {A B r : α} (hc : c = false) (h : B = r) : (bif c then A else B) = r := by subst hc; exact h
theorem loopF_run {σ β : Type} {body : σ → Option (Step σ β)} (I : Nat → σ → β → Prop)
  (h0 : ∀ s b, I 0 s b → body s = some (.done b))
  (h : ∀ k s b, I (k + 1) s b → body s = some (.done b) ∨ ∃ s', body s = some (.next s') ∧ I k s' b) : ∀ {k n : Nat} {s : σ} {b : β}, I k s b → k < n → loopF body n s = some b
 | 0, n + 1, s, b, hI, _ => by simp only [loopF, h0 s b hI]
 | k + 1, n + 1, s, b, hI, hk => by
  simp only [loopF]
  rcases h k s b hI with hd | ⟨s', hn, hI'⟩
  ·rw [hd]
  ·rw [hn]; exact loopF_run I h0 h hI' (by omega)
theorem loopF_up {σ β : Type} {body : σ → Option (Step σ β)} (n : Nat) (hn : n < BIG) (J : Nat → σ → β → Prop) (h0 : ∀ s b, J n s b → body s = some (.done b))
  (h : ∀ i s b, i < n → J i s b → body s = some (.done b) ∨ ∃ s', body s = some (.next s') ∧ J (i + 1) s' b) {s : σ} {b : β} (hJ : J 0 s b) : loopF body BIG s = some b := by
 refine loopF_run (fun k s b => k ≤ n ∧ J (n - k) s b) (fun s b hI => h0 s b (by simpa using hI.2)) (fun k s b hI => ?_) (k := n) ⟨Nat.le_refl _, by simpa using hJ⟩ hn
 obtain ⟨hk, hI⟩ := hI
 rcases h _ s b (by omega) hI with hd | ⟨s', hs, hI'⟩
 ·exact .inl hd
 ·exact .inr ⟨s', hs, by omega, by rwa [show n - (k + 1) + 1 = n - k by omega] at hI'⟩
theorem loop_traj {σ β : Type} {body : σ → Option (Step σ β)} (T : Nat → σ) (n : Nat) (hn : n < BIG) {b : β} (hs : ∀ i, i < n → body (T i) = some (.next (T (i + 1)))) (hd : body (T n) = some (.done b)) : loopF body BIG (T 0) = some b := by
 refine loopF_up (J := fun i s b' => s = T i ∧ b' = b) n hn (fun s b' hJ => ?_) (fun i s b' hi hJ => ?_) ⟨rfl, rfl⟩
 ·obtain ⟨rfl, rfl⟩ := hJ
  exact hd
 ·obtain ⟨rfl, rfl⟩ := hJ
  exact .inr ⟨_, hs i hi, rfl, rfl⟩
theorem loop_all {α β : Type} {body : Int → Option (Step Int (Out Unit β))} (xs : List α) (p : α → Bool) (r : β) (hn : xs.length < BIG)
  (hb : ∀ i (h : i < xs.length), body (i : Int) = if p xs[i] then some (.next ((i + 1 : Nat) : Int)) else some (.done (.ret r)))
  (he : body (xs.length : Int) = some (.done (.fall ()))) : loopF body BIG 0 = some (if xs.all p then .fall () else .ret r) := by
 refine loopF_up (J := fun i s b => s = (i : Int) ∧ b = if (xs.drop i).all p then .fall () else .ret r) xs.length hn (fun s b hJ => ?_) (fun i s b hi hJ => ?_) (by simp)
 ·obtain ⟨rfl, rfl⟩ := hJ
  rw [he]; simp
 ·obtain ⟨rfl, rfl⟩ := hJ
  rw [hb i hi, List.drop_eq_getElem_cons hi, List.all_cons]
  cases hp : p xs[i] with
  | true => exact .inr ⟨_, rfl, rfl, by simp⟩
  | false => exact .inl (by simp)
theorem getI_nat {α : Type} (xs : List α) (i : Nat) : getI xs (i : Int) = xs[i]? := by
 unfold getI; rw [if_pos (by omega)]; simp
theorem getI_lt {α : Type} {xs : List α} {i : Nat} (h : i < xs.length) : getI xs (i : Int) = some xs[i] := by
 rw [getI_nat, List.getElem?_eq_getElem h]
theorem byteI_lt {s : Str} {i : Nat} (h : i < s.length) : byteI s (i : Int) = some (s[i].toNat : Int) := by
 unfold byteI; rw [getI_lt h]; rfl
theorem cat_eq {a b : Str} (h : a.length + b.length ≤ 9223372036854775807) : cat a b = some (a ++ b) := by
 unfold cat; rw [if_pos h]
theorem room_eq {α : Type} {bytes : Nat} {xs ys : List α} (h1 : xs.length + ys.length ≤ 9223372036854775807) (h2 : (xs.length + ys.length) * bytes ≤ 140737488355328) : room bytes xs ys = some (xs ++ ys) := by
 unfold room; rw [if_pos ⟨h1, h2⟩]
theorem subI_eq {α : Type} {xs : List α} {lo hi : Int} (h0 : 0 ≤ lo) (h1 : lo ≤ hi) (h2 : hi ≤ xs.length) : subI xs lo hi = some ((xs.take hi.toNat).drop lo.toNat) := by
 unfold subI; rw [if_pos ⟨h0, h1, h2⟩]
theorem makeI_eq {α : Type} {bytes : Nat} {z : α} {n : Int} (h0 : 0 ≤ n) (h1 : n ≤ 9223372036854775807) (h2 : bytes * n ≤ 281474976710656) : makeI bytes z n = some (List.replicate n.toNat z) := by
 unfold makeI; rw [if_pos ⟨h0, h1, h2⟩]
theorem shrI_eq {k : IntKind} {x y : Int} (h : 0 ≤ y) (h2 : y ≤ k.bits) : shrI k x y = some (x.fdiv (2 ^ y.toNat)) := by
 unfold shrI; rw [if_neg (by omega), show min y.toNat k.bits = y.toNat by omega]
def byteAt (n : Int) (i : Nat) : Int := n.fdiv (2 ^ (8 * i)) % 256
def leL (n : Int) (w : Nat) : List Int := (List.range w).map (byteAt n)
def leB (n : Int) (w : Nat) : Str := bytesS (leL n w)
theorem leL_len (n : Int) (w : Nat) : (leL n w).length = w := by simp [leL]
theorem leB_len (n : Int) (w : Nat) : (leB n w).length = w := by simp [leB, bytesS, leL_len]
theorem leL_succ (n : Int) (w : Nat) : leL n (w + 1) = leL n w ++ [byteAt n w] := by simp [leL, List.range_succ]
theorem leB_succ (n : Int) (w : Nat) : leB n (w + 1) = leB n w ++ bytesS [byteAt n w] := by simp [leB, bytesS, leL_succ]
theorem shr_byte (n : Int) (i : Nat) (hi : i < 8) : shrI .i64 n (w64 (8 * (i : Int))) = some (n.fdiv (2 ^ (8 * i))) := by
 rw [w64_eq ⟨by omega, by omega⟩, shrI_eq (by omega) (by show 8 * (i : Int) ≤ (64 : Nat); omega)]
 rw [show (8 * (i : Int)).toNat = 8 * i by omega]
theorem set_mid {α : Type} (A : List α) (k : Nat) (z v : α) : (A ++ List.replicate (k + 1) z).set A.length v = A ++ [v] ++ List.replicate k z := by
 simp [List.replicate_succ]
theorem byteAt_neg (i : Nat) : byteAt (-1) i = 255 := by
 unfold byteAt
 have hp : (0 : Int) < 2 ^ (8 * i) := Int.pow_pos (by omega)
 have : (-1 : Int).fdiv (2 ^ (8 * i)) = -1 := by
  rw [Int.fdiv_eq_ediv_of_nonneg _ (by omega)]
  rw [Int.ediv_eq_iff_of_pos hp]
  omega
 rw [this]
 rfl
end Rt
end Go
namespace Go.Proofs.YtolgkhjkdadhiaaGreat
open Go.Rt Go.RowKit
def okByte (b : UInt8) : Bool := decide (33 ≤ b.toNat) && decide (b.toNat ≤ 126) && (b.toNat != 47)
def okName (s : Str) : Bool := decide (1 ≤ s.length) && decide (s.length ≤ 64) && (s != [46]) && (s != [46, 46]) && s.all okByte
theorem path_loop (s : Str) (h : s.length ≤ 9223372036854775807) : loopF (path_Valid_L1 s) BIG 0 = some (if s.all okByte then .fall () else .ret false) := by
 have hB : BIG = 18446744073709551616 := rfl
 refine loop_all s okByte false (by omega) (fun i hi => ?_) ?_
 ·unfold path_Valid_L1
  rw [byteI_lt hi]
  have h1 : decide ((i : Int) < (s.length : Int)) = true := by simp; omega
  rw [h1, w64_eq (n := (i : Int) + 1) ⟨by omega, by omega⟩]
  generalize s[i] = b
  simp only [cond_true, Option.bind_some]
  have e : okByte b = !(decide ((b.toNat : Int) < 33) || decide ((b.toNat : Int) > 126) || (b.toNat : Int) == 47) := by
   unfold okByte
   rw [Bool.eq_iff_iff]
   simp only [Bool.and_eq_true, decide_eq_true_eq, bne_iff_ne, Bool.not_eq_true', Bool.or_eq_false_iff, decide_eq_false_iff_not, beq_eq_false_iff_ne]
   omega
  rw [e]
  cases h1 : decide ((b.toNat : Int) < 33) <;> cases h2 : decide ((b.toNat : Int) > 126) <;> cases h3 : ((b.toNat : Int) == 47) <;> simp
 ·unfold path_Valid_L1
  have h1 : decide ((s.length : Int) < (s.length : Int)) = false := by simp
  rw [h1]; rfl
theorem valid_eq (s : Str) (h : s.length ≤ 9223372036854775807) : path_Valid s = some (okName s) := by
 have hB : BIG = 18446744073709551616 := rfl
 unfold path_Valid okName
 rw [path_loop s h]
 simp only [Option.bind_some]
 have e1 : (s == []) = !decide (1 ≤ s.length) := by
  cases s with
  | nil => rfl
  | cons a l => rw [Bool.eq_iff_iff]; simp
 have e2 : decide ((s.length : Int) > 64) = !decide (s.length ≤ 64) := by
  rw [Bool.eq_iff_iff]; simp; omega
 rw [e1, e2]
 simp only [bne]
 cases decide (1 ≤ s.length) <;> cases decide (s.length ≤ 64) <;> cases (s == [46]) <;> cases (s == [46, 46]) <;> cases s.all okByte <;> simp
theorem put_loop (n : Int) (w : Nat) (hw : w ≤ 8) : loopF (octet_Put_L1 (List.replicate w (0 : Int)) n) BIG (0, List.replicate w (0 : Int)) = some (leL n w) := by
 have hB : BIG = 18446744073709551616 := rfl
 have h := loop_traj (body := octet_Put_L1 (List.replicate w (0 : Int)) n) (fun i => ((i : Int), leL n i ++ List.replicate (w - i) (0 : Int))) w (by omega) (b := leL n w) (fun i hi => ?_) ?_
 ·simpa [leL] using h
 ·unfold octet_Put_L1
  have h1 : decide ((i : Int) < ((List.replicate w (0 : Int)).length : Int)) = true := by simp; omega
  simp only [h1, cond_true]
  rw [shr_byte n i (by omega)]
  simp only [Option.bind_some]
  have h2 : (leL n i ++ List.replicate (w - i) (0 : Int)).length = w := by simp [leL_len]; omega
  rw [getI_lt (by omega : i < (leL n i ++ List.replicate (w - i) (0 : Int)).length)]
  simp only [Option.bind_some, Int.toNat_natCast]
  rw [w64_eq (n := (i : Int) + 1) ⟨by omega, by omega⟩, wu8]
  have h3 := set_mid (leL n i) (w - (i + 1)) (0 : Int) (byteAt n i)
  rw [leL_len, show w - (i + 1) + 1 = w - i by omega] at h3
  rw [leL_succ]
  show some (Step.next ((i : Int) + 1, (leL n i ++ List.replicate (w - i) (0 : Int)).set i (byteAt n i))) = _
  rw [h3]
  rfl
 ·unfold octet_Put_L1
  have h1 : decide ((w : Int) < ((List.replicate w (0 : Int)).length : Int)) = false := by simp
  simp only [h1, cond_false]
  simp
def fitsW (n : Int) (w : Nat) : Bool := decide (0 ≤ n) && (decide (8 ≤ w) || decide (n < 2 ^ (8 * w)))
theorem octet_put_all (n : Int) (w : Nat) (h1 : 1 ≤ w) (h8 : w ≤ 8) : octet_Put n (w : Int) = some (if fitsW n w then (leB n w, 0) else ([], 5)) := by
 unfold octet_Put
 refine cond_f (by rw [Bool.or_eq_false_iff]; exact ⟨by simp; omega, by simp; omega⟩) ?_
 refine bind_eq (a := !(fitsW n w)) ?_ ?_
 ·unfold fitsW
  by_cases h0 : n < 0
  ·refine cond_t (by simpa using h0) ?_
   have : decide (0 ≤ n) = false := by simp; omega
   rw [this]; rfl
  ·refine cond_f (by simpa using h0) ?_
   have h0' : decide (0 ≤ n) = true := by simp; omega
   rw [h0']
   by_cases hlt : w < 8
   ·have e8 : decide (8 ≤ w) = false := by simp; omega
    rw [e8]
    refine bind_eq (a := !(decide (n < 2 ^ (8 * w)))) (cond_t (by simp; omega) (bind_eq (shr_byte n w hlt) ?_)) (by simp)
    have hp : (0 : Int) < 2 ^ (8 * w) := Int.pow_pos (by omega)
    rw [Int.fdiv_eq_ediv_of_nonneg _ (by omega)]
    congr 1
    by_cases hn : n < 2 ^ (8 * w)
    ·rw [Int.ediv_eq_zero_of_lt (by omega) hn]
     simp [hn]
    ·have : 1 ≤ n / 2 ^ (8 * w) := by
      rw [Int.le_ediv_iff_mul_le hp]; omega
     simp [hn]; omega
   ·have e8 : decide (8 ≤ w) = true := by simp; omega
    rw [e8]
    exact bind_eq (a := false) (cond_f (by simp; omega) rfl) rfl
 ·cases hf : fitsW n w with
  | false => exact cond_t rfl rfl
  | true =>
   refine cond_f rfl ?_
   refine bind_eq (makeI_eq (by omega) (by omega) (by omega)) ?_
   rw [Int.toNat_natCast]
   exact bind_eq (put_loop n w h8) rfl
theorem octet_put_eq (n : Int) (w : Nat) (h1 : 1 ≤ w) (h8 : w ≤ 8) (h0 : 0 ≤ n) (hn : w < 8 → n < 2 ^ (8 * w)) : octet_Put n (w : Int) = some (leB n w, 0) := by
 rw [octet_put_all n w h1 h8, if_pos]
 unfold fitsW
 rw [Bool.and_eq_true, Bool.or_eq_true]
 refine ⟨by simpa using h0, ?_⟩
 rcases Nat.lt_or_ge w 8 with h | h
 ·exact .inr (by simpa using hn h)
 ·exact .inl (by simpa using h)
def textB (s : Str) : Str := leB (s.length : Int) 2 ++ s
theorem textB_len (s : Str) : (textB s).length = 2 + s.length := by simp [textB, leB_len]
theorem text_put (s : Str) (h : s.length ≤ 65535) : octet_PutText s = some (textB s, 0) := by
 unfold octet_PutText
 have c : decide ((s.length : Int) > 65535) = false := by simp; omega
 rw [c]
 simp only [cond_false]
 have h2 := octet_put_eq (s.length : Int) 2 (by omega) (by omega) (by omega) (fun _ => by show (s.length : Int) < 2 ^ 16; omega)
 rw [show ((2 : Nat) : Int) = 2 from rfl] at h2
 rw [h2]
 simp only [Option.bind_some]
 rw [cat_eq (by rw [leB_len]; omega)]
 rfl
def leV : Str → Nat
 | [] => 0
 | b :: r => b.toNat + 256 * leV r
theorem leV_lt : ∀ (s : Str), leV s < 2 ^ (8 * s.length)
 | [] => by simp [leV]
 | b :: r => by
  have h := leV_lt r
  have hb := b.toNat_lt
  simp only [leV, List.length_cons]
  rw [show 8 * (r.length + 1) = 8 * r.length + 8 by omega, Nat.pow_add]
  omega
def win (s : Str) (at_ w : Nat) : Str := (s.drop at_).take w
theorem win_len {s : Str} {at_ w : Nat} (h : at_ + w ≤ s.length) : (win s at_ w).length = w := by simp [win]; omega
theorem win_drop {s : Str} {at_ w j : Nat} (h : at_ + w ≤ s.length) (hj : j < w) : (win s at_ w).drop (w - (j + 1)) = s[at_ + (w - 1 - j)]'(by omega) :: (win s at_ w).drop (w - j) := by
 have hl := win_len h
 rw [List.drop_eq_getElem_cons (by omega : w - (j + 1) < (win s at_ w).length)]
 congr 1
 ·simp only [win, List.getElem_take, List.getElem_drop]
  congr 1
  omega
 ·congr 1
  omega
theorem or_byte (a b : Nat) (hb : b < 256) : (a * 256) ||| b = a * 256 + b := by
 have := Nat.shiftLeft_add_eq_or_of_lt (i := 8) (b := b) (by omega) a
 rw [Nat.shiftLeft_eq] at this
 exact this.symm
theorem get_loop (s : Str) (at_ w : Nat) (h1 : 1 ≤ w) (h8 : w ≤ 8) (h : at_ + w ≤ s.length) (hs : s.length ≤ 9223372036854775807) : loopF (octet_Get_L1 s (at_ : Int)) BIG (0, w64 ((w : Int) - 1)) = some (leV (win s at_ w) : Int) := by
 have hB : BIG = 18446744073709551616 := rfl
 have hw := loop_traj (body := octet_Get_L1 s (at_ : Int)) (fun j => (((leV ((win s at_ w).drop (w - j)) : Nat) : Int), (w : Int) - 1 - (j : Int))) w (by omega) (b := (leV (win s at_ w) : Int)) (fun j hj => ?_) ?_
 ·have e : (win s at_ w).drop (w - 0) = [] := List.drop_eq_nil_of_le (by rw [win_len h]; omega)
  simp only [e, leV] at hw
  rw [w64_eq ⟨by omega, by omega⟩]
  simpa using hw
 ·unfold octet_Get_L1
  have hlt := leV_lt ((win s at_ w).drop (w - j))
  have hdl : ((win s at_ w).drop (w - j)).length = j := by rw [List.length_drop, win_len h]; omega
  rw [hdl] at hlt
  have hpw : 2 ^ (8 * j) ≤ 2 ^ 56 := Nat.pow_le_pow_right (by omega) (by omega)
  refine cond_t (by simp; omega) ?_
  have ei : w64 ((at_ : Int) + ((w : Int) - 1 - (j : Int))) = ((at_ + (w - 1 - j) : Nat) : Int) := by
   rw [w64_eq ⟨by omega, by omega⟩]; omega
  show Option.bind (byteI s (w64 ((at_ : Int) + ((w : Int) - 1 - (j : Int))))) _ = _
  rw [ei]
  refine bind_eq (byteI_lt (by omega)) ?_
  rw [win_drop h hj]
  simp only [leV]
  generalize s[at_ + (w - 1 - j)]'(by omega) = b
  have hb := b.toNat_lt
  generalize leV ((win s at_ w).drop (w - j)) = v at hlt ⊢
  show some (Step.next (orI .u64 (IntKind.u64.wrap ((v : Int) * 2 ^ 8)) (IntKind.u64.wrap (b.toNat : Int)), w64 ((w : Int) - 1 - (j : Int) - 1))) = _
  have e1 : IntKind.u64.wrap ((v : Int) * 2 ^ 8) = ((v * 256 : Nat) : Int) := by rw [wu64]; omega
  have e2 : IntKind.u64.wrap (b.toNat : Int) = (b.toNat : Int) := by rw [wu64]; omega
  rw [e1, e2, orI_u64 (by omega) (by omega), or_byte _ _ hb, w64_eq ⟨by omega, by omega⟩]
  congr 3
  ·omega
  ·omega
 ·unfold octet_Get_L1
  refine cond_f (by simp; omega) ?_
  simp
theorem get_eq (s : Str) (at_ w : Nat) (h1 : 1 ≤ w) (h8 : w ≤ 8) (h : at_ ≤ s.length) (hs : s.length ≤ 9223372036854775807) :
  octet_Get s (at_ : Int) (w : Int) = some (if s.length - at_ < w then (0, 0, 3) else if leV (win s at_ w) > 9223372036854775807 then (0, 0, 5) else ((leV (win s at_ w) : Int), ((at_ + w : Nat) : Int), 0)) := by
 unfold octet_Get
 refine cond_f (by simp; omega) ?_
 have el : w64 ((s.length : Int) - (at_ : Int)) = ((s.length - at_ : Nat) : Int) := by rw [w64_eq ⟨by omega, by omega⟩]; omega
 rw [el]
 by_cases hlt : s.length - at_ < w
 ·rw [if_pos hlt]
  exact cond_t (by simp; omega) rfl
 ·rw [if_neg hlt]
  refine cond_f (by simp; omega) ?_
  refine bind_eq (get_loop s at_ w h1 h8 (by omega) hs) ?_
  by_cases hv : leV (win s at_ w) > 9223372036854775807
  ·rw [if_pos hv]
   exact cond_t (by simp; omega) rfl
  ·rw [if_neg hv]
   refine cond_f (by simp; omega) ?_
   rw [w64_eq (n := (leV (win s at_ w) : Int)) ⟨by omega, by omega⟩, w64_eq (n := (at_ : Int) + (w : Int)) ⟨by omega, by omega⟩]
   rfl
theorem win_sub (s : Str) (at_ w : Nat) (h : at_ + w ≤ s.length) (hs : s.length ≤ 9223372036854775807) : subI s (at_ : Int) (w64 ((at_ : Int) + (w : Int))) = some (win s at_ w) := by
 rw [w64_eq ⟨by omega, by omega⟩, subI_eq (by omega) (by omega) (by omega)]
 congr 1
 simp only [win, Int.toNat_natCast]
 rw [show ((at_ : Int) + (w : Int)).toNat = at_ + w by omega, List.drop_take, show at_ + w - at_ = w by omega]
theorem win_whole (s : Str) : win s 0 s.length = s := by simp [win]
def takeT (s : Str) (a : Nat) : Option (Str × Nat) :=
 if s.length < a + 2 then none else if s.length < a + 2 + leV (win s a 2) then none else some (win s (a + 2) (leV (win s a 2)), a + 2 + leV (win s a 2))
theorem takeT_le {s t : Str} {a p : Nat} (h : takeT s a = some (t, p)) : p ≤ s.length ∧ t.length ≤ s.length ∧ a + 2 ≤ p := by
 unfold takeT at h
 split at h
 ·cases h
 ·split at h
  ·cases h
  ·rename_i h1 h2
   simp only [Option.some.injEq, Prod.mk.injEq] at h
   obtain ⟨rfl, rfl⟩ := h
   refine ⟨by omega, ?_, by omega⟩
   rw [win_len (by omega)]; omega
theorem two_bytes (s : Str) (a : Nat) (h : a + 2 ≤ s.length) : leV (win s a 2) = (s[a]'(by omega)).toNat + 256 * (s[a + 1]'(by omega)).toNat := by
 have e : win s a 2 = [s[a]'(by omega), s[a + 1]'(by omega)] := by
  unfold win
  rw [List.drop_eq_getElem_cons (by omega), List.drop_eq_getElem_cons (by omega)]
  rfl
 rw [e]
 simp [leV]
theorem leV_two (s : Str) (a : Nat) (h : a + 2 ≤ s.length) : leV (win s a 2) < 65536 := by
 have := leV_lt (win s a 2)
 rw [win_len h] at this
 exact this
theorem gettext_eq (s : Str) (a : Nat) (h : a ≤ s.length) (hs : s.length ≤ 1000000) : octet_GetText s (a : Int) = some (match takeT s a with | none => ([], 0, 3) | some (t, p) => (t, (p : Int), 0)) := by
 unfold octet_GetText
 have hg := get_eq s a 2 (by omega) (by omega) h (by omega)
 rw [show ((2 : Nat) : Int) = 2 from rfl] at hg
 unfold takeT
 by_cases h2 : s.length < a + 2
 ·rw [if_pos (by omega)] at hg
  rw [if_pos h2]
  refine bind_eq hg ?_
  exact cond_t rfl rfl
 ·have hv := leV_two s a (by omega)
  rw [if_neg (by omega), if_neg (by omega)] at hg
  rw [if_neg h2]
  refine bind_eq hg ?_
  refine cond_f rfl ?_
  have ew : w64 ((s.length : Int) - ((a + 2 : Nat) : Int)) = ((s.length - (a + 2) : Nat) : Int) := by rw [w64_eq ⟨by omega, by omega⟩]; omega
  have ex : w64 (((a + 2 : Nat) : Int) + (leV (win s a 2) : Int)) = ((a + 2 + leV (win s a 2) : Nat) : Int) := by rw [w64_eq ⟨by omega, by omega⟩]; omega
  by_cases h3 : s.length < a + 2 + leV (win s a 2)
  ·rw [if_pos h3]
   refine cond_t ?_ rfl
   show decide (w64 ((s.length : Int) - ((a + 2 : Nat) : Int)) < (leV (win s a 2) : Int)) = true
   rw [ew]; simp only [decide_eq_true_eq]; omega
  ·rw [if_neg h3]
   refine cond_f ?_ ?_
   ·show decide (w64 ((s.length : Int) - ((a + 2 : Nat) : Int)) < (leV (win s a 2) : Int)) = false
    rw [ew]; simp only [decide_eq_false_iff_not]; omega
   refine bind_eq (win_sub s (a + 2) (leV (win s a 2)) (by omega) (by omega)) ?_
   show some (_, w64 (((a + 2 : Nat) : Int) + (leV (win s a 2) : Int)), (0 : Int)) = _
   rw [ex]
theorem leV_leL : ∀ (w : Nat) (n : Nat), n < 2 ^ (8 * w) → leV (leB (n : Int) w) = n := by
 have key : ∀ (l : Str) (b : UInt8), leV (l ++ [b]) = leV l + 2 ^ (8 * l.length) * b.toNat := by
  intro l
  induction l with
  | nil => intro b; simp [leV]
  | cons a l ih =>
   intro b
   simp only [List.cons_append, leV, ih, List.length_cons]
   rw [show 8 * (l.length + 1) = 8 * l.length + 8 by omega, Nat.pow_add, Nat.mul_add]
   have : 256 * (2 ^ (8 * l.length) * b.toNat) = 2 ^ (8 * l.length) * 2 ^ 8 * b.toNat := by
    rw [show (2 : Nat) ^ 8 = 256 from rfl, Nat.mul_comm (2 ^ (8 * l.length)) 256, Nat.mul_assoc]
   omega
 have gen : ∀ (w n : Nat), leV (leB (n : Int) w) = n % 2 ^ (8 * w) := by
  intro w
  induction w with
  | zero => intro n; simp [leB, leL, bytesS, leV, Nat.mod_one]
  | succ w ih =>
   intro n
   have hb : (byteAt (n : Int) w).toNat = n / 2 ^ (8 * w) % 256 := by
    unfold byteAt
    have hp : ((2 : Int) ^ (8 * w)) = ((2 ^ (8 * w) : Nat) : Int) := by simp
    rw [hp, Int.fdiv_eq_ediv_of_nonneg _ (Int.natCast_nonneg _)]
    have : ((n : Int) / ((2 ^ (8 * w) : Nat) : Int)) = ((n / 2 ^ (8 * w) : Nat) : Int) := rfl
    rw [this]
    generalize n / 2 ^ (8 * w) = q
    omega
   rw [leB_succ, show bytesS [byteAt (n : Int) w] = [UInt8.ofNat (byteAt (n : Int) w).toNat] from rfl, key, ih, leB_len, hb]
   have h8 : (UInt8.ofNat (n / 2 ^ (8 * w) % 256)).toNat = n / 2 ^ (8 * w) % 256 := by simp
   rw [h8, show 8 * (w + 1) = 8 * w + 8 by omega, Nat.pow_add, Nat.mod_mul]
 intro w n hn
 rw [gen, Nat.mod_eq_of_lt hn]
theorem leB_leV : ∀ (s : Str), leB (leV s : Int) s.length = s := by
 have inj : ∀ (s t : Str), s.length = t.length → leV s = leV t → s = t := by
  intro s
  induction s with
  | nil => intro t h _; cases t with | nil => rfl | cons _ _ => simp at h
  | cons b s ih =>
   intro t h hv
   cases t with
   | nil => simp at h
   | cons c t =>
    simp only [leV] at hv
    have hb := b.toNat_lt
    have hc := c.toNat_lt
    have h1 : b.toNat = c.toNat := by omega
    have h2 : leV s = leV t := by omega
    rw [UInt8.toNat_inj.1 h1, ih t (by simpa using h) h2]
 intro s
 exact inj _ _ (leB_len _ _) (leV_leL _ _ (leV_lt s))
end Go.Proofs.YtolgkhjkdadhiaaGreat
namespace Go.Proofs.YtolgkhjkdadhiaaGreat
open Go.Rt Go.RowKit
def api_Qid.ok (d : api_Qid) : Prop := InK .i64 d.Type_ ∧ InK .i64 d.Vers_ ∧ InK .i64 d.Path_
def api_Dir.ok (d : api_Dir) : Prop := InK .i64 d.Type_ ∧ InK .i64 d.Dev_ ∧ d.Qid_.ok ∧ InK .i64 d.Mode_ ∧ InK .i64 d.Atime_ ∧ InK .i64 d.Mtime_ ∧ InK .i64 d.Length_ ∧ d.Name_.length ≤ 9223372036854775807 ∧ d.Uid_.length ≤ 9223372036854775807 ∧ d.Gid_.length ≤ 9223372036854775807 ∧ d.Muid_.length ≤ 9223372036854775807
theorem loop_all2 {α β γ : Type} {body : Int × γ → Option (Step (Int × γ) (Out Unit β))} (c : γ) (xs : List α) (p : α → Bool) (r : β) (hn : xs.length < BIG)
  (hb : ∀ i (h : i < xs.length), body ((i : Int), c) = if p xs[i] then some (.next (((i + 1 : Nat) : Int), c)) else some (.done (.ret r)))
  (he : body ((xs.length : Int), c) = some (.done (.fall ()))) : loopF body BIG (0, c) = some (if xs.all p then .fall () else .ret r) := by
 refine loopF_up (J := fun i s b => s = ((i : Int), c) ∧ b = if (xs.drop i).all p then .fall () else .ret r) xs.length hn (fun s b hJ => ?_) (fun i s b hi hJ => ?_) (by simp)
 ·obtain ⟨rfl, rfl⟩ := hJ
  rw [he]; simp
 ·obtain ⟨rfl, rfl⟩ := hJ
  rw [hb i hi, List.drop_eq_getElem_cons hi, List.all_cons]
  cases hp : p xs[i] with
  | true => exact .inr ⟨_, rfl, rfl, by simp⟩
  | false => exact .inl (by simp)
def okNum (m : stat_number) : Bool := decide (-1 ≤ m.n_) && decide (m.n_ ≤ m.most_)
def numList (x : api_Dir) : List stat_number := [(stat_number.mk x.Type_ 2 65534), (stat_number.mk x.Dev_ 4 4294967294), (stat_number.mk x.Qid_.Type_ 1 232), (stat_number.mk x.Qid_.Vers_ 4 2147483647), (stat_number.mk x.Qid_.Path_ 8 1099511627776), (stat_number.mk x.Mode_ 4 3892314623), (stat_number.mk x.Atime_ 8 1099511627776), (stat_number.mk x.Mtime_ 8 1099511627776), (stat_number.mk x.Length_ 8 9007199254740991)]
theorem numbers_eq (x : api_Dir) : stat_numbers x = some (numList x) := rfl
theorem check_loop (ns : List stat_number) (h : ns.length ≤ 1000) : loopF (stat_Check_L1 ns) BIG (0, ns) = some (if ns.all okNum then .fall () else .ret 5) := by
 have hB : BIG = 18446744073709551616 := rfl
 refine loop_all2 ns ns okNum 5 (by omega) (fun i hi => ?_) ?_
 ·unfold stat_Check_L1
  simp only
  rw [getI_lt hi]
  have h1 : decide ((i : Int) < (ns.length : Int)) = true := by simp; omega
  rw [h1, w64_eq (n := (i : Int) + 1) ⟨by omega, by omega⟩]
  generalize ns[i] = m
  simp only [cond_true, Option.bind_some]
  have e : okNum m = !(decide (m.n_ < -1) || decide (m.n_ > m.most_)) := by
   unfold okNum
   rw [Bool.eq_iff_iff]
   simp only [Bool.and_eq_true, decide_eq_true_eq, Bool.not_eq_true', Bool.or_eq_false_iff, decide_eq_false_iff_not]
   omega
  rw [e]
  cases decide (m.n_ < -1) <;> cases decide (m.n_ > m.most_) <;> simp
 ·unfold stat_Check_L1
  have h1 : decide ((ns.length : Int) < (ns.length : Int)) = false := by simp
  rw [h1]; rfl
def okBits (x m : Int) : Bool := (x == -1) || (decide (x ≥ 0) && (andI .i64 x m == x))
def okIn (x m : Int) : Bool := (x == -1) || (decide (x ≥ 0) && decide (x ≤ m))
theorem within_eq (x : Int) (m : Nat) (hm : m < 2 ^ 63) (hx : x ≤ 9223372036854775807) : stat_within x (m : Int) = some (okBits x (m : Int)) := by
 unfold stat_within okBits
 by_cases h0 : 0 ≤ x
 ·obtain ⟨n, rfl⟩ : ∃ n : Nat, x = (n : Int) := ⟨x.toNat, by omega⟩
  rw [andNot_zero (by omega) hm]
 ·have h0' : decide (x ≥ 0) = false := by simp; omega
  rw [h0']
  simp
theorem bits_in (x : Int) (m : Nat) (hm : m < 2 ^ 63) (hx : x ≤ 9223372036854775807) (h : okBits x (m : Int) = true) : okIn x (m : Int) = true := by
 unfold okBits at h
 unfold okIn
 by_cases h0 : 0 ≤ x
 ·obtain ⟨n, rfl⟩ : ∃ n : Nat, x = (n : Int) := ⟨x.toNat, by omega⟩
  rw [andI_nat (by omega) hm] at h
  simp only [Bool.or_eq_true, Bool.and_eq_true, beq_iff_eq, decide_eq_true_eq] at h ⊢
  rcases h with h | ⟨_, h⟩
  ·exact .inl h
  ·have : n &&& m = n := by omega
   have := and_le this
   exact .inr ⟨h0, by omega⟩
 ·simp only [Bool.or_eq_true, Bool.and_eq_true, beq_iff_eq, decide_eq_true_eq] at h ⊢
  rcases h with h | ⟨h, _⟩
  ·exact .inl h
  ·omega
theorem okNum_in (n w m : Int) : okNum ⟨n, w, m⟩ = okIn n m ∨ m < -1 := by
 by_cases hm : m < -1
 ·exact .inr hm
 ·refine .inl ?_
  unfold okNum okIn
  rw [Bool.eq_iff_iff]
  simp only [Bool.or_eq_true, Bool.and_eq_true, beq_iff_eq, decide_eq_true_eq]
  omega
def okNums (x : api_Dir) : Bool := okIn x.Type_ 65534 && okIn x.Dev_ 4294967294 && okBits x.Qid_.Type_ 232 && okIn x.Qid_.Vers_ 2147483647 && okIn x.Qid_.Path_ 1099511627776 && okBits x.Mode_ 3892314623 && okIn x.Atime_ 1099511627776 && okIn x.Mtime_ 1099511627776 && okIn x.Length_ 9007199254740991
def okTexts (x : api_Dir) : Bool := (x.Name_ == [] || x.Name_ == [47] || okName x.Name_) && decide (x.Uid_.length ≤ 64) && decide (x.Gid_.length ≤ 64) && decide (x.Muid_.length ≤ 64)
def checkR (x : api_Dir) : Int := if okNums x then (if okTexts x then 0 else 6) else 5
theorem numList_ok (x : api_Dir) (h : x.ok) : ((numList x).all okNum && okBits x.Qid_.Type_ 232 && okBits x.Mode_ 3892314623) = okNums x := by
 have e := fun n w m (hm : ¬ m < -1) => (okNum_in n w m).resolve_right hm
 have b1 := bits_in x.Qid_.Type_ 232 (by omega) h.2.2.1.1.2
 have b2 := bits_in x.Mode_ 3892314623 (by omega) h.2.2.2.1.2
 unfold okNums numList
 simp only [List.all_cons, List.all_nil, e _ _ _ (show ¬ (65534 : Int) < -1 by omega), e _ _ _ (show ¬ (4294967294 : Int) < -1 by omega), e _ _ _ (show ¬ (232 : Int) < -1 by omega), e _ _ _ (show ¬ (2147483647 : Int) < -1 by omega), e _ _ _ (show ¬ (1099511627776 : Int) < -1 by omega), e _ _ _ (show ¬ (3892314623 : Int) < -1 by omega), e _ _ _ (show ¬ (9007199254740991 : Int) < -1 by omega)]
 simp only [Int.cast_ofNat_Int] at b1 b2
 cases h1 : okBits x.Qid_.Type_ 232 <;> cases h2 : okBits x.Mode_ 3892314623 <;> simp_all [Bool.and_assoc]
theorem check_eq (x : api_Dir) (h : x.ok) (hn : x.Name_.length ≤ 9223372036854775807) : stat_Check x = some (checkR x) := by
 have hl := numList_ok x h
 have w1 := within_eq x.Qid_.Type_ 232 (by omega) h.2.2.1.1.2
 have w2 := within_eq x.Mode_ 3892314623 (by omega) h.2.2.2.1.2
 simp only [Int.cast_ofNat_Int] at w1 w2
 unfold stat_Check checkR
 rw [numbers_eq]
 simp only [Option.bind_some]
 rw [check_loop (numList x) (show (9 : Nat) ≤ 1000 by decide)]
 simp only [Option.bind_some]
 rw [← hl]
 cases h1 : (numList x).all okNum with
 | false => simp
 | true =>
  simp only [if_true]
  rw [w1, w2, valid_eq _ hn]
  simp only [Option.bind_some]
  have em : decide (maxI (maxI (x.Uid_.length : Int) (x.Gid_.length : Int)) (x.Muid_.length : Int) > 64) = !(decide (x.Uid_.length ≤ 64) && decide (x.Gid_.length ≤ 64) && decide (x.Muid_.length ≤ 64)) := by
   rw [Bool.eq_iff_iff]
   simp only [Bool.not_eq_true', Bool.and_eq_false_iff, decide_eq_true_eq, decide_eq_false_iff_not]
   unfold maxI
   split <;> split <;> omega
  rw [em]
  unfold okTexts
  cases okBits x.Qid_.Type_ 232 <;> cases okBits x.Mode_ 3892314623 <;> cases (x.Name_ == []) <;> cases (x.Name_ == [47]) <;> cases okName x.Name_ <;> cases decide (x.Uid_.length ≤ 64) <;> cases decide (x.Gid_.length ≤ 64) <;> cases decide (x.Muid_.length ≤ 64) <;> simp
theorem repeat_eq (w : Nat) (hw : w ≤ 8) : strings_Repeat [255] (w : Int) = some (leB (-1) w) := by
 unfold strings_Repeat
 rw [if_pos ⟨by omega, by omega, by simp; omega⟩]
 simp only [Int.toNat_natCast, Option.some.injEq]
 unfold leB leL
 induction w with
 | zero => rfl
 | succ k ih =>
  rw [List.replicate_succ', List.flatten_append, ih (by omega), List.range_succ, List.map_append]
  simp [bytesS, byteAt_neg]
theorem number_put (m : stat_number) (w : Nat) (hw : m.width_ = (w : Int)) (h1 : 1 ≤ w) (h8 : w ≤ 8) (hok : okNum m = true) (hm : w < 8 → m.most_ < 2 ^ (8 * w)) : stat_put m = some (leB m.n_ w) := by
 unfold stat_put
 unfold okNum at hok
 simp only [Bool.and_eq_true, decide_eq_true_eq] at hok
 rw [hw]
 by_cases hn : m.n_ = -1
 ·have c : (m.n_ == -1) = true := by simp [hn]
  rw [c, hn, repeat_eq w h8]; rfl
 ·have c : (m.n_ == -1) = false := by simp [hn]
  rw [c, octet_put_eq m.n_ w h1 h8 (by omega) (fun h => by have := hm h; omega)]; rfl
def numsB (x : api_Dir) : Str := leB x.Type_ 2 ++ leB x.Dev_ 4 ++ leB x.Qid_.Type_ 1 ++ leB x.Qid_.Vers_ 4 ++ leB x.Qid_.Path_ 8 ++ leB x.Mode_ 4 ++ leB x.Atime_ 8 ++ leB x.Mtime_ 8 ++ leB x.Length_ 8
def bodyB (x : api_Dir) : Str := numsB x ++ textB x.Name_ ++ textB x.Uid_ ++ textB x.Gid_ ++ textB x.Muid_
def putB (x : api_Dir) : Str := leB ((bodyB x).length : Int) 2 ++ bodyB x
theorem numsB_len (x : api_Dir) : (numsB x).length = 47 := by simp [numsB, leB_len]
theorem bodyB_len (x : api_Dir) : (bodyB x).length = 55 + x.Name_.length + x.Uid_.length + x.Gid_.length + x.Muid_.length := by simp [bodyB, numsB_len, textB_len]; omega
theorem putB_len (x : api_Dir) : (putB x).length = 57 + x.Name_.length + x.Uid_.length + x.Gid_.length + x.Muid_.length := by simp [putB, leB_len, bodyB_len]; omega
theorem checkR_zero (x : api_Dir) (h : checkR x = 0) : okNums x = true ∧ okTexts x = true := by
 unfold checkR at h
 cases h1 : okNums x <;> cases h2 : okTexts x <;> simp_all
theorem texts_len (x : api_Dir) (h : okTexts x = true) : x.Name_.length ≤ 64 ∧ x.Uid_.length ≤ 64 ∧ x.Gid_.length ≤ 64 ∧ x.Muid_.length ≤ 64 := by
 unfold okTexts okName at h
 simp only [Bool.and_eq_true, Bool.or_eq_true, beq_iff_eq, decide_eq_true_eq] at h
 obtain ⟨⟨⟨hn, h1⟩, h2⟩, h3⟩ := h
 refine ⟨?_, h1, h2, h3⟩
 rcases hn with (hn | hn) | hn
 ·rw [hn]; simp
 ·rw [hn]; simp
 ·omega
theorem nums_put_loop (x : api_Dir) (hok : (numList x).all okNum = true) : loopF (stat_Put_L1 (numList x)) BIG ([], 0, numList x) = some (numsB x) := by
 have hl : (numList x).length = 9 := rfl
 simp only [numList, List.all_cons, List.all_nil, Bool.and_true, Bool.and_eq_true] at hok
 obtain ⟨o0, o1, o2, o3, o4, o5, o6, o7, o8⟩ := hok
 have s0 := number_put _ 2 rfl (by omega) (by omega) o0 (fun _ => by show (65534 : Int) < 2 ^ 16; omega)
 have s1 := number_put _ 4 rfl (by omega) (by omega) o1 (fun _ => by show (4294967294 : Int) < 2 ^ 32; omega)
 have s2 := number_put _ 1 rfl (by omega) (by omega) o2 (fun _ => by show (232 : Int) < 2 ^ 8; omega)
 have s3 := number_put _ 4 rfl (by omega) (by omega) o3 (fun _ => by show (2147483647 : Int) < 2 ^ 32; omega)
 have s4 := number_put _ 8 rfl (by omega) (by omega) o4 (fun h => by omega)
 have s5 := number_put _ 4 rfl (by omega) (by omega) o5 (fun _ => by show (3892314623 : Int) < 2 ^ 32; omega)
 have s6 := number_put _ 8 rfl (by omega) (by omega) o6 (fun h => by omega)
 have s7 := number_put _ 8 rfl (by omega) (by omega) o7 (fun h => by omega)
 have s8 := number_put _ 8 rfl (by omega) (by omega) o8 (fun h => by omega)
 let bs : List Str := [leB x.Type_ 2, leB x.Dev_ 4, leB x.Qid_.Type_ 1, leB x.Qid_.Vers_ 4, leB x.Qid_.Path_ 8, leB x.Mode_ 4, leB x.Atime_ 8, leB x.Mtime_ 8, leB x.Length_ 8]
 have step : ∀ (i : Nat) (m : stat_number) (b acc : Str), i < 9 → (numList x)[i]? = some m → stat_put m = some b → acc.length ≤ 1000 → b.length ≤ 8 → stat_Put_L1 (numList x) (acc, (i : Int), numList x) = some (.next (acc ++ b, ((i + 1 : Nat) : Int), numList x)) := fun i m b acc hi hm hp ha hb => by
  unfold stat_Put_L1
  have h1 : decide ((i : Int) < ((numList x).length : Int)) = true := by rw [hl]; simp; omega
  simp only [h1, cond_true]
  rw [getI_nat, hm]
  simp only [Option.bind_some]
  rw [hp]
  simp only [Option.bind_some]
  rw [cat_eq (by omega)]
  simp only [Option.bind_some]
  rw [w64_eq (n := (i : Int) + 1) ⟨by omega, by omega⟩]
  rfl
 have h := loop_traj (body := stat_Put_L1 (numList x)) (fun i => ((bs.take i).flatten, (i : Int), numList x)) 9 (by show (9 : Nat) < 18446744073709551616; omega) (b := numsB x) (fun i hi => ?_) ?_
 ·exact h
 ·have hcases : i = 0 ∨ i = 1 ∨ i = 2 ∨ i = 3 ∨ i = 4 ∨ i = 5 ∨ i = 6 ∨ i = 7 ∨ i = 8 := by omega
  have hlen : ((bs.take i).flatten).length ≤ 1000 := by
   rcases hcases with rfl | rfl | rfl | rfl | rfl | rfl | rfl | rfl | rfl <;> simp [bs, leB_len]
  rcases hcases with rfl | rfl | rfl | rfl | rfl | rfl | rfl | rfl | rfl
  ·exact (step 0 _ _ _ (by omega) rfl s0 hlen (by rw [leB_len]; omega)).trans (by simp [bs])
  ·exact (step 1 _ _ _ (by omega) rfl s1 hlen (by rw [leB_len]; omega)).trans (by simp [bs])
  ·exact (step 2 _ _ _ (by omega) rfl s2 hlen (by rw [leB_len]; omega)).trans (by simp [bs])
  ·exact (step 3 _ _ _ (by omega) rfl s3 hlen (by rw [leB_len]; omega)).trans (by simp [bs])
  ·exact (step 4 _ _ _ (by omega) rfl s4 hlen (by rw [leB_len]; omega)).trans (by simp [bs])
  ·exact (step 5 _ _ _ (by omega) rfl s5 hlen (by rw [leB_len]; omega)).trans (by simp [bs])
  ·exact (step 6 _ _ _ (by omega) rfl s6 hlen (by rw [leB_len]; omega)).trans (by simp [bs])
  ·exact (step 7 _ _ _ (by omega) rfl s7 hlen (by rw [leB_len]; omega)).trans (by simp [bs])
  ·exact (step 8 _ _ _ (by omega) rfl s8 hlen (by rw [leB_len]; omega)).trans (by simp [bs])
 ·unfold stat_Put_L1
  have h1 : decide (((9 : Nat) : Int) < ((numList x).length : Int)) = false := by rw [hl]; simp
  simp only [h1, cond_false]
  simp [bs, numsB]
theorem texts_put_loop (x : api_Dir) (hx : x.Name_.length ≤ 1000 ∧ x.Uid_.length ≤ 1000 ∧ x.Gid_.length ≤ 1000 ∧ x.Muid_.length ≤ 1000) : loopF (stat_Put_L2 x) BIG (numsB x, 0, [x.Name_, x.Uid_, x.Gid_, x.Muid_]) = some (.fall (bodyB x)) := by
 let ts : List Str := [x.Name_, x.Uid_, x.Gid_, x.Muid_]
 have hl : ts.length = 4 := rfl
 have step : ∀ (i : Nat) (t acc : Str), i < 4 → ts[i]? = some t → t.length ≤ 1000 → acc.length ≤ 10000 → stat_Put_L2 x (acc, (i : Int), [x.Name_, x.Uid_, x.Gid_, x.Muid_]) = some (.next (acc ++ textB t, ((i + 1 : Nat) : Int), [x.Name_, x.Uid_, x.Gid_, x.Muid_])) := fun i t acc hi ht hlt ha => by
  unfold stat_Put_L2
  have h1 : decide ((i : Int) < ([x.Name_, x.Uid_, x.Gid_, x.Muid_].length : Int)) = true := by simp; omega
  simp only [h1, cond_true]
  rw [getI_nat, show [x.Name_, x.Uid_, x.Gid_, x.Muid_][i]? = some t from ht]
  simp only [Option.bind_some]
  rw [text_put t (by omega)]
  simp only [Option.bind_some, bne_self_eq_false, cond_false]
  rw [cat_eq (by rw [textB_len]; omega)]
  simp only [Option.bind_some]
  rw [w64_eq (n := (i : Int) + 1) ⟨by omega, by omega⟩]
  rfl
 have h := loop_traj (body := stat_Put_L2 x) (fun i => (numsB x ++ ((ts.take i).map textB).flatten, (i : Int), [x.Name_, x.Uid_, x.Gid_, x.Muid_])) 4 (by show (4 : Nat) < 18446744073709551616; omega) (b := .fall (bodyB x)) (fun i hi => ?_) ?_
 ·simpa using h
 ·have hcases : i = 0 ∨ i = 1 ∨ i = 2 ∨ i = 3 := by omega
  have hlen : (numsB x ++ ((ts.take i).map textB).flatten).length ≤ 10000 := by
   rcases hcases with rfl | rfl | rfl | rfl <;> simp [ts, numsB_len, textB_len] <;> omega
  rcases hcases with rfl | rfl | rfl | rfl
  ·exact (step 0 _ _ (by omega) rfl hx.1 hlen).trans (by simp [ts])
  ·exact (step 1 _ _ (by omega) rfl hx.2.1 hlen).trans (by simp [ts])
  ·exact (step 2 _ _ (by omega) rfl hx.2.2.1 hlen).trans (by simp [ts])
  ·exact (step 3 _ _ (by omega) rfl hx.2.2.2 hlen).trans (by simp [ts])
 ·unfold stat_Put_L2
  have h1 : decide (((4 : Nat) : Int) < ([x.Name_, x.Uid_, x.Gid_, x.Muid_].length : Int)) = false := by simp
  simp only [h1, cond_false]
  simp [ts, bodyB]
def putR (x : api_Dir) : Str × Int := if checkR x = 0 then (putB x, 0) else ([], checkR x)
theorem put_eq (x : api_Dir) (h : x.ok) (hn : x.Name_.length ≤ 9223372036854775807) : stat_Put x = some (putR x) := by
 unfold stat_Put putR
 rw [check_eq x h hn]
 simp only [Option.bind_some]
 by_cases hc : checkR x = 0
 ·obtain ⟨hN, hT⟩ := checkR_zero x hc
  have htl := texts_len x hT
  have hnl := numList_ok x h
  rw [hN] at hnl
  simp only [Bool.and_eq_true] at hnl
  have c : (checkR x != 0) = false := by simp [hc]
  rw [c, if_pos hc, numbers_eq]
  simp only [cond_false, Option.bind_some]
  rw [nums_put_loop x hnl.1.1]
  simp only [Option.bind_some]
  rw [texts_put_loop x (by omega)]
  simp only [Option.bind_some]
  have hbl := bodyB_len x
  have h2 := octet_put_eq ((bodyB x).length : Int) 2 (by omega) (by omega) (by omega) (fun _ => by show ((bodyB x).length : Int) < 2 ^ 16; omega)
  rw [show ((2 : Nat) : Int) = 2 from rfl] at h2
  rw [h2]
  simp only [Option.bind_some]
  rw [cat_eq (by rw [leB_len]; omega)]
  rfl
 ·have c : (checkR x != 0) = true := by simp [hc]
  rw [c, if_neg hc]
  rfl
def all255 (s : Str) : Bool := s.all (· == 255)
def numF (s : Str) : Int := if all255 s then -1 else if leV s > 9223372036854775807 then 9223372036854775807 else (leV s : Int)
def numR (s : Str) : Int := if all255 s then -1 else if leV s > 9223372036854775807 then -2 else (leV s : Int)
theorem count_255 (s : Str) : ((s.count 255 : Nat) : Int) = (s.length : Int) ↔ all255 s = true := by
 unfold all255
 rw [List.all_eq_true]
 simp only [beq_iff_eq]
 rw [show (((s.count 255 : Nat) : Int) = (s.length : Int)) ↔ s.count 255 = s.length by omega, List.count_eq_length]
 constructor
 ·intro h x hx; exact (h x hx).symm
 ·intro h x hx; exact (h x hx).symm
theorem reader_number_eq (s : Str) (at_ w : Nat) (h1 : 1 ≤ w) (h8 : w ≤ 8) (h : at_ + w ≤ s.length) (hs : s.length ≤ 9223372036854775807) :
  stat_reader_number ⟨s, (at_ : Int), true⟩ (w : Int) = some (numR (win s at_ w), ⟨s, ((at_ + w : Nat) : Int), true⟩) := by
 have ea : w64 ((at_ : Int) + (w : Int)) = ((at_ + w : Nat) : Int) := by rw [w64_eq ⟨by omega, by omega⟩]; omega
 have hwl := win_len h
 unfold stat_reader_number
 refine cond_f ?_ ?_
 ·show (!true || decide (w64 ((s.length : Int) - (at_ : Int)) < (w : Int))) = false
  rw [w64_eq (n := (s.length : Int) - (at_ : Int)) ⟨by omega, by omega⟩]
  simp; omega
 refine bind_eq (win_sub s at_ w h hs) ?_
 refine bind_eq (a := (((win s at_ w).count 255 : Nat) : Int)) rfl ?_
 unfold numR
 have hc := count_255 (win s at_ w)
 rw [hwl] at hc
 by_cases h255 : all255 (win s at_ w) = true
 ·refine cond_t (by simpa using hc.2 h255) ?_
  rw [if_pos h255, ← ea]
 ·refine cond_f (by rw [beq_eq_false_iff_ne]; exact fun hh => h255 (hc.1 hh)) ?_
  rw [if_neg h255]
  have hg := get_eq (win s at_ w) 0 w h1 h8 (by omega) (by omega)
  rw [hwl, if_neg (by omega)] at hg
  have hww : win (win s at_ w) 0 w = win s at_ w := by have := win_whole (win s at_ w); rwa [hwl] at this
  rw [hww] at hg
  refine bind_eq hg ?_
  by_cases hv : leV (win s at_ w) > 9223372036854775807
  ·rw [if_pos hv, if_pos hv]
   refine cond_t rfl ?_
   rw [← ea]
  ·rw [if_neg hv, if_neg hv]
   refine cond_f rfl ?_
   rw [← ea]
theorem loop_next {σ β : Type} {body : σ → Option (Step σ β)} {n : Nat} {s s' : σ} {r : Option β} (h : body s = some (.next s')) (hr : loopF body n s' = r) : loopF body (n + 1) s = r := by
 simp only [loopF, h]; exact hr
theorem loop_done {σ β : Type} {body : σ → Option (Step σ β)} {n : Nat} {s : σ} {b : β} (h : body s = some (.done b)) : loopF body (n + 1) s = some b := by
 simp only [loopF, h]
theorem reader_text_ok (s : Str) (a : Nat) (h : a ≤ s.length) (hs : s.length ≤ 1000000) :
  stat_reader_text ⟨s, (a : Int), true⟩ = some (match takeT s a with | none => ([], ⟨s, (a : Int), false⟩) | some (t, p) => (t, ⟨s, (p : Int), true⟩)) := by
 unfold stat_reader_text
 refine cond_f rfl ?_
 refine bind_eq (gettext_eq s a h hs) ?_
 cases takeT s a with
 | none => exact cond_t rfl rfl
 | some x => exact cond_f rfl rfl
theorem reader_text_no (s : Str) (a : Int) : stat_reader_text ⟨s, a, false⟩ = some ([], ⟨s, a, false⟩) := by
 unfold stat_reader_text
 exact cond_t rfl rfl
theorem reader_number_no (s : Str) (a w : Int) : stat_reader_number ⟨s, a, false⟩ w = some (0, ⟨s, a, false⟩) := by
 unfold stat_reader_number
 exact cond_t rfl rfl
theorem reader_number_short (s : Str) (a w : Nat) (h : a ≤ s.length) (hw : s.length < a + w) (hs : s.length ≤ 1000000) : stat_reader_number ⟨s, (a : Int), true⟩ (w : Int) = some (0, ⟨s, (a : Int), false⟩) := by
 unfold stat_reader_number
 refine cond_t ?_ rfl
 show (!true || decide (w64 ((s.length : Int) - (a : Int)) < (w : Int))) = true
 rw [w64_eq ⟨by omega, by omega⟩]
 simp; omega
theorem reader_number_any (s : Str) (a w : Nat) (ok : Bool) (h1 : 1 ≤ w) (h8 : w ≤ 8) (h : a ≤ s.length) (hs : s.length ≤ 1000000) :
  ∃ (v : Int) (a' : Nat) (ok' : Bool), stat_reader_number ⟨s, (a : Int), ok⟩ (w : Int) = some (v, ⟨s, (a' : Int), ok'⟩) ∧ a' ≤ s.length ∧ (ok' = true → ok = true ∧ a' = a + w) := by
 cases ok with
 | false => exact ⟨0, a, false, reader_number_no s a w, h, fun hh => by cases hh⟩
 | true =>
  by_cases hw : s.length < a + w
  ·exact ⟨0, a, false, reader_number_short s a w h hw hs, h, fun hh => by cases hh⟩
  ·exact ⟨_, a + w, true, reader_number_eq s a w h1 h8 (by omega) (by omega), by omega, fun _ => ⟨rfl, rfl⟩⟩
theorem reader_text_any (s : Str) (a : Nat) (ok : Bool) (h : a ≤ s.length) (hs : s.length ≤ 1000000) :
  ∃ (t : Str) (a' : Nat) (ok' : Bool), stat_reader_text ⟨s, (a : Int), ok⟩ = some (t, ⟨s, (a' : Int), ok'⟩) ∧ a' ≤ s.length ∧ (ok' = true → ok = true) := by
 cases ok with
 | false => exact ⟨[], a, false, reader_text_no s a, h, fun hh => by cases hh⟩
 | true =>
  have ht := reader_text_ok s a h hs
  cases hk : takeT s a with
  | none => rw [hk] at ht; exact ⟨[], a, false, ht, h, fun hh => by cases hh⟩
  | some x => rw [hk] at ht; exact ⟨x.1, x.2, true, ht, (takeT_le hk).1, fun _ => rfl⟩
theorem read_short (s : Str) (hs : s.length < 47) : ∃ d at_, stat_reader_read ⟨s, 0, true⟩ = some (d, ⟨s, at_, false⟩) := by
 have hl : s.length ≤ 1000000 := by omega
 obtain ⟨v1, a1, k1, e1, b1, o1⟩ := reader_number_any s 0 2 true (by omega) (by omega) (by omega) hl
 obtain ⟨v2, a2, k2, e2, b2, o2⟩ := reader_number_any s a1 4 k1 (by omega) (by omega) b1 hl
 obtain ⟨v3, a3, k3, e3, b3, o3⟩ := reader_number_any s a2 1 k2 (by omega) (by omega) b2 hl
 obtain ⟨v4, a4, k4, e4, b4, o4⟩ := reader_number_any s a3 4 k3 (by omega) (by omega) b3 hl
 obtain ⟨v5, a5, k5, e5, b5, o5⟩ := reader_number_any s a4 8 k4 (by omega) (by omega) b4 hl
 obtain ⟨v6, a6, k6, e6, b6, o6⟩ := reader_number_any s a5 4 k5 (by omega) (by omega) b5 hl
 obtain ⟨v7, a7, k7, e7, b7, o7⟩ := reader_number_any s a6 8 k6 (by omega) (by omega) b6 hl
 obtain ⟨v8, a8, k8, e8, b8, o8⟩ := reader_number_any s a7 8 k7 (by omega) (by omega) b7 hl
 obtain ⟨v9, a9, k9, e9, b9, o9⟩ := reader_number_any s a8 8 k8 (by omega) (by omega) b8 hl
 obtain ⟨t1, c1, q1, f1, d1, p1⟩ := reader_text_any s a9 k9 b9 hl
 obtain ⟨t2, c2, q2, f2, d2, p2⟩ := reader_text_any s c1 q1 d1 hl
 obtain ⟨t3, c3, q3, f3, d3, p3⟩ := reader_text_any s c2 q2 d2 hl
 obtain ⟨t4, c4, q4, f4, d4, p4⟩ := reader_text_any s c3 q3 d3 hl
 have hq : q4 = false := by
  cases hq : q4 with
  | false => rfl
  | true =>
   have g9 := p1 (p2 (p3 (p4 hq)))
   obtain ⟨g8, r9⟩ := o9 g9
   obtain ⟨g7, r8⟩ := o8 g8
   obtain ⟨g6, r7⟩ := o7 g7
   obtain ⟨g5, r6⟩ := o6 g6
   obtain ⟨g4, r5⟩ := o5 g5
   obtain ⟨g3, r4⟩ := o4 g4
   obtain ⟨g2, r3⟩ := o3 g3
   obtain ⟨g1, r2⟩ := o2 g2
   obtain ⟨_, r1⟩ := o1 g1
   omega
 subst hq
 refine ⟨⟨v1, v2, ⟨v3, v4, v5⟩, v6, v7, v8, v9, t1, t2, t3, t4⟩, (c4 : Int), ?_⟩
 unfold stat_reader_read
 refine bind_eq e1 ?_
 refine bind_eq e2 ?_
 refine bind_eq e3 ?_
 refine bind_eq e4 ?_
 refine bind_eq e5 ?_
 refine bind_eq e6 ?_
 refine bind_eq e7 ?_
 refine bind_eq e8 ?_
 refine bind_eq e9 ?_
 refine bind_eq f1 ?_
 refine bind_eq f2 ?_
 refine bind_eq f3 ?_
 refine bind_eq f4 ?_
 rfl
def take4 (s : Str) (a : Nat) : Option (Str × Str × Str × Str × Nat) :=
 match takeT s a with
 | none => none
 | some (t1, p1) => match takeT s p1 with
  | none => none
  | some (t2, p2) => match takeT s p2 with
   | none => none
   | some (t3, p3) => match takeT s p3 with
    | none => none
    | some (t4, p4) => some (t1, t2, t3, t4, p4)
def dirR (s t1 t2 t3 t4 : Str) : api_Dir := ⟨numR (win s 0 2), numR (win s 2 4), ⟨numR (win s 6 1), numR (win s 7 4), numR (win s 11 8)⟩, numR (win s 19 4), numR (win s 23 8), numR (win s 31 8), numR (win s 39 8), t1, t2, t3, t4⟩
theorem read_long (s : Str) (hs : 47 ≤ s.length) (hl : s.length ≤ 1000000) : match take4 s 47 with
  | some (t1, t2, t3, t4, p) => stat_reader_read ⟨s, 0, true⟩ = some (dirR s t1 t2 t3 t4, ⟨s, (p : Int), true⟩)
  | none => ∃ d at_, stat_reader_read ⟨s, 0, true⟩ = some (d, ⟨s, at_, false⟩) := by
 have e1 := reader_number_eq s 0 2 (by omega) (by omega) (by omega) (by omega)
 have e2 := reader_number_eq s 2 4 (by omega) (by omega) (by omega) (by omega)
 have e3 := reader_number_eq s 6 1 (by omega) (by omega) (by omega) (by omega)
 have e4 := reader_number_eq s 7 4 (by omega) (by omega) (by omega) (by omega)
 have e5 := reader_number_eq s 11 8 (by omega) (by omega) (by omega) (by omega)
 have e6 := reader_number_eq s 19 4 (by omega) (by omega) (by omega) (by omega)
 have e7 := reader_number_eq s 23 8 (by omega) (by omega) (by omega) (by omega)
 have e8 := reader_number_eq s 31 8 (by omega) (by omega) (by omega) (by omega)
 have e9 := reader_number_eq s 39 8 (by omega) (by omega) (by omega) (by omega)
 have key : ∀ (t1 t2 t3 t4 : Str) (r1 r2 r3 r4 : stat_reader), stat_reader_text ⟨s, ((47 : Nat) : Int), true⟩ = some (t1, r1) → stat_reader_text r1 = some (t2, r2) → stat_reader_text r2 = some (t3, r3) → stat_reader_text r3 = some (t4, r4) →
   stat_reader_read ⟨s, 0, true⟩ = some (dirR s t1 t2 t3 t4, r4) := by
  intro t1 t2 t3 t4 r1 r2 r3 r4 f1 f2 f3 f4
  unfold stat_reader_read
  refine bind_eq e1 ?_
  refine bind_eq e2 ?_
  refine bind_eq e3 ?_
  refine bind_eq e4 ?_
  refine bind_eq e5 ?_
  refine bind_eq e6 ?_
  refine bind_eq e7 ?_
  refine bind_eq e8 ?_
  refine bind_eq e9 ?_
  refine bind_eq f1 ?_
  refine bind_eq f2 ?_
  refine bind_eq f3 ?_
  refine bind_eq f4 ?_
  rfl
 have ht1 := reader_text_ok s 47 (by omega) hl
 unfold take4
 cases h1 : takeT s 47 with
 | none =>
  rw [h1] at ht1
  exact ⟨_, _, key _ _ _ _ _ _ _ _ ht1 (reader_text_no _ _) (reader_text_no _ _) (reader_text_no _ _)⟩
 | some x1 =>
  obtain ⟨t1, p1⟩ := x1
  rw [h1] at ht1
  have l1 := (takeT_le h1).1
  have ht2 := reader_text_ok s p1 l1 hl
  simp only
  cases h2 : takeT s p1 with
  | none =>
   rw [h2] at ht2
   exact ⟨_, _, key _ _ _ _ _ _ _ _ ht1 ht2 (reader_text_no _ _) (reader_text_no _ _)⟩
  | some x2 =>
   obtain ⟨t2, p2⟩ := x2
   rw [h2] at ht2
   have l2 := (takeT_le h2).1
   have ht3 := reader_text_ok s p2 l2 hl
   simp only
   cases h3 : takeT s p2 with
   | none =>
    rw [h3] at ht3
    exact ⟨_, _, key _ _ _ _ _ _ _ _ ht1 ht2 ht3 (reader_text_no _ _)⟩
   | some x3 =>
    obtain ⟨t3, p3⟩ := x3
    rw [h3] at ht3
    have l3 := (takeT_le h3).1
    have ht4 := reader_text_ok s p3 l3 hl
    simp only
    cases h4 : takeT s p3 with
    | none =>
     rw [h4] at ht4
     exact ⟨_, _, key _ _ _ _ _ _ _ _ ht1 ht2 ht3 ht4⟩
    | some x4 =>
     obtain ⟨t4, p4⟩ := x4
     rw [h4] at ht4
     exact key _ _ _ _ _ _ _ _ ht1 ht2 ht3 ht4
theorem win_shift (s : Str) (k a w : Nat) : win (s.drop k) a w = win s (k + a) w := by simp [win, List.drop_drop]
theorem takeT_shift (s : Str) (k a : Nat) (hk : k ≤ s.length) : takeT (s.drop k) a = (takeT s (k + a)).map fun x => (x.1, x.2 - k) := by
 unfold takeT
 rw [win_shift, win_shift, List.length_drop]
 rw [show k + (a + 2) = k + a + 2 by omega]
 by_cases h1 : s.length < k + a + 2
 ·rw [if_pos (by omega), if_pos h1]; rfl
 ·rw [if_neg (by omega), if_neg h1]
  by_cases h2 : s.length < k + a + 2 + leV (win s (k + a) 2)
  ·rw [if_pos (by omega), if_pos h2]; rfl
  ·rw [if_neg (by omega), if_neg h2]
   simp only [Option.map_some, Option.some.injEq, Prod.mk.injEq, true_and]
   omega
theorem take4_shift (s : Str) (k : Nat) (hk : k ≤ s.length) : take4 (s.drop k) 0 = (take4 s k).map fun x => (x.1, x.2.1, x.2.2.1, x.2.2.2.1, x.2.2.2.2 - k) := by
 unfold take4
 rw [takeT_shift s k 0 hk, Nat.add_zero]
 cases h1 : takeT s k with
 | none => rfl
 | some x1 =>
  obtain ⟨t1, p1⟩ := x1
  have g1 := takeT_le h1
  simp only [Option.map_some]
  rw [takeT_shift s k (p1 - k) hk, show k + (p1 - k) = p1 by omega]
  cases h2 : takeT s p1 with
  | none => rfl
  | some x2 =>
   obtain ⟨t2, p2⟩ := x2
   have g2 := takeT_le h2
   simp only [Option.map_some]
   rw [takeT_shift s k (p2 - k) hk, show k + (p2 - k) = p2 by omega]
   cases h3 : takeT s p2 with
   | none => rfl
   | some x3 =>
    obtain ⟨t3, p3⟩ := x3
    have g3 := takeT_le h3
    simp only [Option.map_some]
    rw [takeT_shift s k (p3 - k) hk, show k + (p3 - k) = p3 by omega]
    cases h4 : takeT s p3 with
    | none => rfl
    | some x4 => rfl
def zeroDir : api_Dir := api_Dir.mk 0 0 (api_Qid.mk 0 0 0) 0 0 0 0 [] [] [] []
theorem num_small (s : Str) (h : s.length ≤ 4) : numR s = numF s := by
 have hl := leV_lt s
 have hp : 2 ^ (8 * s.length) ≤ 2 ^ 32 := Nat.pow_le_pow_right (by omega) (by omega)
 unfold numR numF
 split
 ·rfl
 ·rw [if_neg (by omega), if_neg (by omega)]
theorem num_any (s : Str) : numR s = numF s ∨ (numR s = -2 ∧ numF s = 9223372036854775807) := by
 unfold numR numF
 split
 ·exact .inl rfl
 ·split
  ·exact .inr ⟨rfl, rfl⟩
  ·exact .inl rfl
theorem numR_in (s : Str) : InK .i64 (numR s) := by
 show -9223372036854775808 ≤ numR s ∧ numR s ≤ 9223372036854775807
 unfold numR
 split
 ·omega
 ·split <;> omega
theorem take4_le {s t1 t2 t3 t4 : Str} {a p : Nat} (h : take4 s a = some (t1, t2, t3, t4, p)) : p ≤ s.length ∧ t1.length ≤ s.length ∧ t2.length ≤ s.length ∧ t3.length ≤ s.length ∧ t4.length ≤ s.length ∧ a + 8 ≤ p := by
 unfold take4 at h
 cases h1 : takeT s a with
 | none => rw [h1] at h; cases h
 | some x1 =>
  obtain ⟨u1, p1⟩ := x1
  rw [h1] at h
  simp only at h
  cases h2 : takeT s p1 with
  | none => rw [h2] at h; cases h
  | some x2 =>
   obtain ⟨u2, p2⟩ := x2
   rw [h2] at h
   simp only at h
   cases h3 : takeT s p2 with
   | none => rw [h3] at h; cases h
   | some x3 =>
    obtain ⟨u3, p3⟩ := x3
    rw [h3] at h
    simp only at h
    cases h4 : takeT s p3 with
    | none => rw [h4] at h; cases h
    | some x4 =>
     obtain ⟨u4, p4⟩ := x4
     rw [h4] at h
     simp only [Option.some.injEq, Prod.mk.injEq] at h
     obtain ⟨rfl, rfl, rfl, rfl, rfl⟩ := h
     have g1 := takeT_le h1
     have g2 := takeT_le h2
     have g3 := takeT_le h3
     have g4 := takeT_le h4
     omega
theorem dirR_ok (s t1 t2 t3 t4 : Str) (h1 : t1.length ≤ 1000000) (h2 : t2.length ≤ 1000000) (h3 : t3.length ≤ 1000000) (h4 : t4.length ≤ 1000000) : (dirR s t1 t2 t3 t4).ok :=
 ⟨numR_in _, numR_in _, ⟨numR_in _, numR_in _, numR_in _⟩, numR_in _, numR_in _, numR_in _, numR_in _, by show t1.length ≤ _; omega, by show t2.length ≤ _; omega, by show t3.length ≤ _; omega, by show t4.length ≤ _; omega⟩
end Go.Proofs.YtolgkhjkdadhiaaGreat
namespace Go.Proofs.YtolgkhjkdadhiaaGreat
open Go.Rt Go.RowKit
def dirF (s t1 t2 t3 t4 : Str) : api_Dir := ⟨numF (win s 0 2), numF (win s 2 4), ⟨numF (win s 6 1), numF (win s 7 4), numF (win s 11 8)⟩, numF (win s 19 4), numF (win s 23 8), numF (win s 31 8), numF (win s 39 8), t1, t2, t3, t4⟩
theorem dir_check (s t1 t2 t3 t4 : Str) (h : 47 ≤ s.length) : checkR (dirR s t1 t2 t3 t4) = checkR (dirF s t1 t2 t3 t4) ∧ (checkR (dirF s t1 t2 t3 t4) = 0 → dirR s t1 t2 t3 t4 = dirF s t1 t2 t3 t4) := by
 have q1 := num_small (win s 0 2) (by rw [win_len (by omega)]; omega)
 have q2 := num_small (win s 2 4) (by rw [win_len (by omega)]; omega)
 have q3 := num_small (win s 6 1) (by rw [win_len (by omega)]; omega)
 have q4 := num_small (win s 7 4) (by rw [win_len (by omega)]; omega)
 have q6 := num_small (win s 19 4) (by rw [win_len (by omega)]; omega)
 have bad : ∀ x : api_Dir, okNums x = false → checkR x = 5 := fun x hx => by unfold checkR; rw [hx]; rfl
 have i1 : okIn (-2) 1099511627776 = false := rfl
 have i2 : okIn 9223372036854775807 1099511627776 = false := rfl
 have i3 : okIn (-2) 9007199254740991 = false := rfl
 have i4 : okIn 9223372036854775807 9007199254740991 = false := rfl
 have fin : okNums (dirR s t1 t2 t3 t4) = false → okNums (dirF s t1 t2 t3 t4) = false → checkR (dirR s t1 t2 t3 t4) = checkR (dirF s t1 t2 t3 t4) ∧ (checkR (dirF s t1 t2 t3 t4) = 0 → dirR s t1 t2 t3 t4 = dirF s t1 t2 t3 t4) := fun h1 h2 => by
  rw [bad _ h1, bad _ h2]
  exact ⟨rfl, fun hh => by omega⟩
 rcases num_any (win s 11 8) with q5 | ⟨q5, q5'⟩
 ·rcases num_any (win s 23 8) with q7 | ⟨q7, q7'⟩
  ·rcases num_any (win s 31 8) with q8 | ⟨q8, q8'⟩
   ·rcases num_any (win s 39 8) with q9 | ⟨q9, q9'⟩
    ·have e : dirR s t1 t2 t3 t4 = dirF s t1 t2 t3 t4 := by unfold dirR dirF; rw [q1, q2, q3, q4, q5, q6, q7, q8, q9]
     rw [e]
     exact ⟨rfl, fun _ => rfl⟩
    ·exact fin (by simp [okNums, dirR, q9, i3]) (by simp [okNums, dirF, q9', i4])
   ·exact fin (by simp [okNums, dirR, q8, i1]) (by simp [okNums, dirF, q8', i2])
  ·exact fin (by simp [okNums, dirR, q7, i1]) (by simp [okNums, dirF, q7', i2])
 ·exact fin (by simp [okNums, dirR, q5, i1]) (by simp [okNums, dirF, q5', i2])
def getR (s : Str) (a : Nat) : api_Dir × Int × Int :=
 if s.length < a + 2 then (zeroDir, 0, 3) else
 if s.length < a + 2 + leV (win s a 2) then (zeroDir, 0, 3) else
 if leV (win s a 2) < 47 then (zeroDir, 0, 2) else
 match take4 (win s (a + 2) (leV (win s a 2))) 47 with
 | none => (zeroDir, 0, 2)
 | some (t1, t2, t3, t4, p) => if p = leV (win s a 2) then
   if checkR (dirF (win s (a + 2) (leV (win s a 2))) t1 t2 t3 t4) = 0 then (dirF (win s (a + 2) (leV (win s a 2))) t1 t2 t3 t4, ((a + 2 + leV (win s a 2) : Nat) : Int), 0) else (zeroDir, 0, checkR (dirF (win s (a + 2) (leV (win s a 2))) t1 t2 t3 t4))
  else (zeroDir, 0, 2)
theorem stat_get_eq (s : Str) (a : Nat) (h : a ≤ s.length) (hs : s.length ≤ 1000000) : stat_Get s (a : Int) = some (getR s a) := by
 unfold stat_Get getR
 have hg := get_eq s a 2 (by omega) (by omega) h (by omega)
 rw [show ((2 : Nat) : Int) = 2 from rfl] at hg
 by_cases h2 : s.length < a + 2
 ·rw [if_pos (by omega)] at hg
  rw [if_pos h2]
  refine bind_eq hg ?_
  exact cond_t rfl rfl
 ·have hv := leV_two s a (by omega)
  rw [if_neg (by omega), if_neg (by omega)] at hg
  rw [if_neg h2]
  refine bind_eq hg ?_
  refine cond_f rfl ?_
  have ew : w64 ((s.length : Int) - ((a + 2 : Nat) : Int)) = ((s.length - (a + 2) : Nat) : Int) := by rw [w64_eq ⟨by omega, by omega⟩]; omega
  have ex : w64 (((a + 2 : Nat) : Int) + (leV (win s a 2) : Int)) = ((a + 2 + leV (win s a 2) : Nat) : Int) := by rw [w64_eq ⟨by omega, by omega⟩]; omega
  by_cases h3 : s.length < a + 2 + leV (win s a 2)
  ·rw [if_pos h3]
   refine cond_t ?_ rfl
   show decide (w64 ((s.length : Int) - ((a + 2 : Nat) : Int)) < (leV (win s a 2) : Int)) = true
   rw [ew]; simp only [decide_eq_true_eq]; omega
  ·rw [if_neg h3]
   refine cond_f ?_ ?_
   ·show decide (w64 ((s.length : Int) - ((a + 2 : Nat) : Int)) < (leV (win s a 2) : Int)) = false
    rw [ew]; simp only [decide_eq_false_iff_not]; omega
   refine bind_eq (win_sub s (a + 2) (leV (win s a 2)) (by omega) (by omega)) ?_
   have hwl : (win s (a + 2) (leV (win s a 2))).length = leV (win s a 2) := win_len (by omega)
   generalize leV (win s a 2) = n at hwl hv h3 ex ⊢
   generalize win s (a + 2) n = y at hwl ⊢
   by_cases h47 : n < 47
   ·rw [if_pos h47]
    obtain ⟨d, at_, hr⟩ := read_short y (by omega)
    refine bind_eq hr ?_
    exact cond_t rfl rfl
   ·rw [if_neg h47]
    have hr := read_long y (by omega) (by omega)
    cases h4 : take4 y 47 with
    | none =>
     rw [h4] at hr
     obtain ⟨d, at_, hr⟩ := hr
     refine bind_eq hr ?_
     exact cond_t rfl rfl
    | some x =>
     obtain ⟨t1, t2, t3, t4, p⟩ := x
     rw [h4] at hr
     refine bind_eq hr ?_
     simp only
     by_cases hp : p = n
     ·rw [if_pos hp]
      refine cond_f (by simp [hp]) ?_
      have hle := take4_le h4
      have hB : BIG = 18446744073709551616 := rfl
      refine bind_eq (check_eq _ (dirR_ok y t1 t2 t3 t4 (by omega) (by omega) (by omega) (by omega)) (by show t1.length ≤ _; omega)) ?_
      have hd := dir_check y t1 t2 t3 t4 (by omega)
      rw [hd.1]
      by_cases hc : checkR (dirF y t1 t2 t3 t4) = 0
      ·rw [if_pos hc]
       refine cond_f (by simp [hc]) ?_
       show some (dirR y t1 t2 t3 t4, w64 (((a + 2 : Nat) : Int) + (n : Int)), (0 : Int)) = _
       rw [hd.2 hc, ex]
      ·rw [if_neg hc]
       exact cond_t (by simp [hc]) rfl
     ·rw [if_neg hp]
      refine cond_t ?_ rfl
      simp only [Bool.or_eq_true, bne_iff_ne]
      right
      intro hh
      apply hp
      omega
theorem all255_val : ∀ (s : Str), all255 s = true → leV s = 2 ^ (8 * s.length) - 1
 | [], _ => rfl
 | b :: r, h => by
  unfold all255 at h
  simp only [List.all_cons, Bool.and_eq_true, beq_iff_eq] at h
  have ih := all255_val r h.2
  obtain ⟨h1, _⟩ := h
  subst h1
  simp only [leV, ih, List.length_cons]
  rw [show 8 * (r.length + 1) = 8 * r.length + 8 by omega, Nat.pow_add]
  have := Nat.two_pow_pos (8 * r.length)
  rw [show (255 : UInt8).toNat = 255 from rfl]
  omega
theorem win_split (s : Str) (a n m : Nat) : win s a (n + m) = win s a n ++ win s (a + n) m := by
 unfold win
 rw [← List.drop_drop, List.take_add]
theorem win_join (s : Str) (a n m b k : Nat) (h : b = a + n) (hk : k = n + m) : win s a n ++ win s b m = win s a k := by
 subst h; subst hk; exact (win_split s a n m).symm
theorem text_takeT {s t : Str} {a p : Nat} (h : takeT s a = some (t, p)) : textB t = win s a (p - a) ∧ p = a + 2 + t.length ∧ t.length < 65536 ∧ p ≤ s.length := by
 have h0 := h
 unfold takeT at h
 split at h
 ·cases h
 ·split at h
  ·cases h
  ·rename_i h1 h2
   simp only [Option.some.injEq, Prod.mk.injEq] at h
   obtain ⟨rfl, rfl⟩ := h
   have hl : (win s (a + 2) (leV (win s a 2))).length = leV (win s a 2) := win_len (by omega)
   have hv := leV_two s a (by omega)
   refine ⟨?_, by omega, by omega, by omega⟩
   rw [show a + 2 + leV (win s a 2) - a = 2 + leV (win s a 2) by omega, win_split]
   unfold textB
   rw [hl]
   have := leB_leV (win s a 2)
   rw [win_len (by omega)] at this
   rw [this]
theorem leB_numR (y : Str) (w : Nat) (hw : y.length = w) (h : numR y ≠ -2) : leB (numR y) w = y := by
 unfold numR at *
 split
 ·rename_i h255
  subst hw
  have key : ∀ (y : Str), all255 y = true → y = List.replicate y.length 255 := by
   intro y
   induction y with
   | nil => intro _; rfl
   | cons b y ih =>
    intro h
    unfold all255 at h
    simp only [List.all_cons, Bool.and_eq_true, beq_iff_eq] at h
    obtain ⟨rfl, h2⟩ := h
    rw [List.length_cons, List.replicate_succ, ← ih h2]
  rw [key y h255, List.length_replicate]
  unfold leB leL bytesS
  apply List.ext_getElem
  ·simp
  ·intro i h1 h2
   simp only [List.getElem_map, List.getElem_range, List.getElem_replicate]
   rw [byteAt_neg]
   rfl
 ·rename_i h255
  rw [if_neg h255] at h
  split at h
  ·exact absurd rfl h
  ·rename_i hle
   rw [if_neg hle]
   subst hw
   exact leB_leV y
theorem putB_getR (y : Str) (d : api_Dir) (h : getR y 0 = (d, (y.length : Int), 0)) : checkR d = 0 ∧ putB d = y := by
 unfold getR at h
 split at h
 ·simp at h
 ·split at h
  ·simp at h
  ·split at h
   ·simp at h
   ·rename_i h1 h2 h3
    split at h
    ·simp at h
    ·rename_i t1 t2 t3 t4 p ht
     split at h
     ·rename_i hp
      split at h
      ·rename_i hc
       simp only [Prod.mk.injEq, and_true] at h
       obtain ⟨rfl, hend⟩ := h
       refine ⟨hc, ?_⟩
       have hend' : 2 + leV (win y 0 2) = y.length := by omega
       have hv : (win y (0 + 2) (leV (win y 0 2))).length = leV (win y 0 2) := win_len (by omega)
       generalize hz : win y (0 + 2) (leV (win y 0 2)) = z at *
       have hdR := (dir_check z t1 t2 t3 t4 (by omega)).2 hc
       rw [← hdR]
       have hbody : bodyB (dirR z t1 t2 t3 t4) = z := by
        unfold take4 at ht
        have hN := (checkR_zero _ hc).1
        rw [← hdR] at hN
        have hne : ∀ (x m : Int), okIn x m = true → x ≠ -2 := fun x m hx he => by subst he; simp [okIn] at hx
        have hneB : ∀ (x m : Int), okBits x m = true → x ≠ -2 := fun x m hx he => by subst he; simp [okBits] at hx
        simp only [okNums, Bool.and_eq_true] at hN
        obtain ⟨⟨⟨⟨⟨⟨⟨⟨n0, n1⟩, n2⟩, n3⟩, n4⟩, n5⟩, n6⟩, n7⟩, n8⟩ := hN
        have w : ∀ a b, a + b ≤ z.length → (win z a b).length = b := fun a b h => win_len h
        have e0 := leB_numR (win z 0 2) 2 (w 0 2 (by omega)) (hne _ _ n0)
        have e1 := leB_numR (win z 2 4) 4 (w 2 4 (by omega)) (hne _ _ n1)
        have e2 := leB_numR (win z 6 1) 1 (w 6 1 (by omega)) (hneB _ _ n2)
        have e3 := leB_numR (win z 7 4) 4 (w 7 4 (by omega)) (hne _ _ n3)
        have e4 := leB_numR (win z 11 8) 8 (w 11 8 (by omega)) (hne _ _ n4)
        have e5 := leB_numR (win z 19 4) 4 (w 19 4 (by omega)) (hneB _ _ n5)
        have e6 := leB_numR (win z 23 8) 8 (w 23 8 (by omega)) (hne _ _ n6)
        have e7 := leB_numR (win z 31 8) 8 (w 31 8 (by omega)) (hne _ _ n7)
        have e8 := leB_numR (win z 39 8) 8 (w 39 8 (by omega)) (hne _ _ n8)
        unfold bodyB numsB
        simp only [dirR]
        rw [e0, e1, e2, e3, e4, e5, e6, e7, e8]
        rw [win_join z 0 2 4 2 6 rfl rfl, win_join z 0 6 1 6 7 rfl rfl, win_join z 0 7 4 7 11 rfl rfl, win_join z 0 11 8 11 19 rfl rfl, win_join z 0 19 4 19 23 rfl rfl, win_join z 0 23 8 23 31 rfl rfl, win_join z 0 31 8 31 39 rfl rfl, win_join z 0 39 8 39 47 rfl rfl]
        cases g1 : takeT z 47 with
        | none => rw [g1] at ht; cases ht
        | some q1 =>
         obtain ⟨u1, p1⟩ := q1
         rw [g1] at ht
         simp only at ht
         cases g2 : takeT z p1 with
         | none => rw [g2] at ht; cases ht
         | some q2 =>
          obtain ⟨u2, p2⟩ := q2
          rw [g2] at ht
          simp only at ht
          cases g3 : takeT z p2 with
          | none => rw [g3] at ht; cases ht
          | some q3 =>
           obtain ⟨u3, p3⟩ := q3
           rw [g3] at ht
           simp only at ht
           cases g4 : takeT z p3 with
           | none => rw [g4] at ht; cases ht
           | some q4 =>
            obtain ⟨u4, p4⟩ := q4
            rw [g4] at ht
            simp only [Option.some.injEq, Prod.mk.injEq] at ht
            obtain ⟨rfl, rfl, rfl, rfl, rfl⟩ := ht
            obtain ⟨a1, b1, c1, d1⟩ := text_takeT g1
            obtain ⟨a2, b2, c2, d2⟩ := text_takeT g2
            obtain ⟨a3, b3, c3, d3⟩ := text_takeT g3
            obtain ⟨a4, b4, c4, d4⟩ := text_takeT g4
            rw [a1, a2, a3, a4, win_join z 0 47 (p1 - 47) 47 p1 rfl (by omega), win_join z 0 p1 (p2 - p1) p1 p2 (by omega) (by omega), win_join z 0 p2 (p3 - p2) p2 p3 (by omega) (by omega), win_join z 0 p3 (p4 - p3) p3 p4 (by omega) (by omega)]
            have : p4 = z.length := by omega
            rw [this]
            simp [win]
       unfold putB
       rw [hbody, hv]
       have := leB_leV (win y 0 2)
       rw [win_len (by omega)] at this
       rw [this, ← hz]
       have := win_split y 0 2 (leV (win y 0 2))
       rw [← this, hend']
       simp [win]
      ·rename_i hc
       simp only [Prod.mk.injEq] at h
       exact absurd h.2.2 hc
     ·simp at h
end Go.Proofs.YtolgkhjkdadhiaaGreat
namespace Go.Proofs.YtolgkhjkdadhiaaGreat
open Go.Rt Go.RowKit
abbrev MAXI : Nat := 9223372036854775807
def encN (n : Int) (w : Nat) : Option Str := if fitsW n w then some (leB n w) else none
def encT (s : Str) : Option Str := if s.length ≤ 65535 then some (textB s) else none
def encQ (q : api_Qid) : Option Str := if fitsW q.Type_ 1 && fitsW q.Vers_ 4 && fitsW q.Path_ 8 then some (leB q.Type_ 1 ++ leB q.Vers_ 4 ++ leB q.Path_ 8) else none
def encs {α : Type} (f : α → Option Str) : List α → Option Str
 | [] => some []
 | x :: l => match f x, encs f l with
  | some a, some b => some (a ++ b)
  | _, _ => none
def encL {α : Type} (f : α → Option Str) (l : List α) : Option Str := if l.length ≤ 65535 then (encs f l).map (leB (l.length : Int) 2 ++ ·) else none
def encD (s : Str) (w : Nat) : Option Str := if fitsW (s.length : Int) w then some (leB (s.length : Int) w ++ s) else none
def encS (d : api_Dir) : Option Str := if checkR d = 0 then some (leB ((putB d).length : Int) 2 ++ putB d) else none
def decN (y : Str) (a w : Nat) : Option (Nat × Nat) := if y.length < a + w then none else if leV (win y a w) > MAXI then none else some (leV (win y a w), a + w)
theorem decN_enc {y : Str} {a w n p : Nat} (h : decN y a w = some (n, p)) (_ : w ≤ 8) : p = a + w ∧ p ≤ y.length ∧ n ≤ MAXI ∧ encN (n : Int) w = some (win y a w) := by
 unfold decN at h
 split at h
 ·cases h
 ·split at h
  ·cases h
  ·rename_i h1 h2
   simp only [Option.some.injEq, Prod.mk.injEq] at h
   obtain ⟨rfl, rfl⟩ := h
   refine ⟨rfl, by omega, by omega, ?_⟩
   have hl : (win y a w).length = w := win_len (by omega)
   have hv := leV_lt (win y a w)
   rw [hl] at hv
   have hf : fitsW ((leV (win y a w) : Nat) : Int) w = true := by
    unfold fitsW
    rw [Bool.and_eq_true, Bool.or_eq_true]
    refine ⟨by simp, .inr ?_⟩
    rw [decide_eq_true_eq]
    exact_mod_cast hv
   unfold encN
   rw [if_pos hf]
   have := leB_leV (win y a w)
   rw [hl] at this
   rw [this]
theorem rnum (y : Str) (a w : Nat) (h1 : 1 ≤ w) (h8 : w ≤ 8) (h : a ≤ y.length) (hs : y.length ≤ 1000000) :
  wire_reader_number ⟨y, (a : Int), true⟩ (w : Int) = some (match decN y a w with | none => (0, ⟨y, (a : Int), false⟩) | some (n, p) => ((n : Int), ⟨y, (p : Int), true⟩)) := by
 unfold wire_reader_number decN
 refine cond_f rfl ?_
 refine bind_eq (get_eq y a w h1 h8 h (by omega)) ?_
 by_cases hlt : y.length < a + w
 ·rw [if_pos (by omega), if_pos hlt]
  exact cond_t rfl rfl
 ·rw [if_neg (by omega), if_neg hlt]
  by_cases hv : leV (win y a w) > 9223372036854775807
  ·rw [if_pos hv, if_pos hv]
   exact cond_t rfl rfl
  ·rw [if_neg hv, if_neg hv]
   exact cond_f rfl rfl
theorem rnum_no (y : Str) (a w : Int) : wire_reader_number ⟨y, a, false⟩ w = some (0, ⟨y, a, false⟩) := by
 unfold wire_reader_number
 exact cond_t rfl rfl
theorem rtext (y : Str) (a : Nat) (h : a ≤ y.length) (hs : y.length ≤ 1000000) :
  wire_reader_text ⟨y, (a : Int), true⟩ = some (match takeT y a with | none => ([], ⟨y, (a : Int), false⟩) | some (t, p) => (t, ⟨y, (p : Int), true⟩)) := by
 unfold wire_reader_text
 refine cond_f rfl ?_
 refine bind_eq (gettext_eq y a h hs) ?_
 cases takeT y a with
 | none => exact cond_t rfl rfl
 | some q => exact cond_f rfl rfl
theorem rtext_no (y : Str) (a : Int) : wire_reader_text ⟨y, a, false⟩ = some ([], ⟨y, a, false⟩) := by
 unfold wire_reader_text
 exact cond_t rfl rfl
theorem takeT_enc {y t : Str} {a p : Nat} (h : takeT y a = some (t, p)) : p ≤ y.length ∧ a ≤ p ∧ encT t = some (win y a (p - a)) := by
 obtain ⟨h1, h2, h3, h4⟩ := text_takeT h
 refine ⟨h4, by omega, ?_⟩
 unfold encT
 rw [if_pos (by omega), h1]
theorem rqid (y : Str) (a : Nat) (h : a ≤ y.length) (hs : y.length ≤ 1000000) : ∃ q r, wire_reader_qid ⟨y, (a : Int), true⟩ = some (q, r) ∧ r.s_ = y ∧ ((r.ok_ = true ∧ ∃ p : Nat, r.at_ = (p : Int) ∧ a ≤ p ∧ p ≤ y.length ∧ encQ q = some (win y a (p - a))) ∨ r.ok_ = false) := by
 unfold wire_reader_qid
 have e1 := rnum y a 1 (by omega) (by omega) h hs
 rw [show ((1 : Nat) : Int) = 1 from rfl] at e1
 cases d1 : decN y a 1 with
 | none =>
  rw [d1] at e1
  exact ⟨_, _, bind_eq e1 (bind_eq (rnum_no _ _ _) (bind_eq (rnum_no _ _ _) rfl)), rfl, .inr rfl⟩
 | some q1 =>
  obtain ⟨n1, p1⟩ := q1
  rw [d1] at e1
  obtain ⟨a1, b1, c1, g1⟩ := decN_enc d1 (by omega)
  have e2 := rnum y p1 4 (by omega) (by omega) b1 hs
  rw [show ((4 : Nat) : Int) = 4 from rfl] at e2
  cases d2 : decN y p1 4 with
  | none =>
   rw [d2] at e2
   exact ⟨_, _, bind_eq e1 (bind_eq e2 (bind_eq (rnum_no _ _ _) rfl)), rfl, .inr rfl⟩
  | some q2 =>
   obtain ⟨n2, p2⟩ := q2
   rw [d2] at e2
   obtain ⟨a2, b2, c2, g2⟩ := decN_enc d2 (by omega)
   have e3 := rnum y p2 8 (by omega) (by omega) b2 hs
   rw [show ((8 : Nat) : Int) = 8 from rfl] at e3
   cases d3 : decN y p2 8 with
   | none =>
    rw [d3] at e3
    exact ⟨_, _, bind_eq e1 (bind_eq e2 (bind_eq e3 rfl)), rfl, .inr rfl⟩
   | some q3 =>
    obtain ⟨n3, p3⟩ := q3
    rw [d3] at e3
    obtain ⟨a3, b3, c3, g3⟩ := decN_enc d3 (by omega)
    refine ⟨_, _, bind_eq e1 (bind_eq e2 (bind_eq e3 rfl)), rfl, .inl ⟨rfl, p3, rfl, by omega, b3, ?_⟩⟩
    unfold encN at g1 g2 g3
    split at g1
    ·split at g2
     ·split at g3
      ·rename_i f1 f2 f3
       have g1 := Option.some.inj g1
       have g2 := Option.some.inj g2
       have g3 := Option.some.inj g3
       unfold encQ
       show (if fitsW (n1 : Int) 1 && fitsW (n2 : Int) 4 && fitsW (n3 : Int) 8 then some (leB (n1 : Int) 1 ++ leB (n2 : Int) 4 ++ leB (n3 : Int) 8) else none) = _
       rw [f1, f2, f3, g1, g2, g3, win_join y a 1 4 p1 5 a1 rfl, win_join y a 5 8 p2 (p3 - a) (by omega) (by omega)]
       rfl
      ·cases g3
     ·cases g2
    ·cases g1
theorem rqid_no (y : Str) (a : Int) : ∃ q, wire_reader_qid ⟨y, a, false⟩ = some (q, ⟨y, a, false⟩) := by
 unfold wire_reader_qid
 exact ⟨_, bind_eq (rnum_no _ _ _) (bind_eq (rnum_no _ _ _) (bind_eq (rnum_no _ _ _) rfl))⟩
end Go.Proofs.YtolgkhjkdadhiaaGreat
namespace Go.Proofs.YtolgkhjkdadhiaaGreat
open Go.Rt Go.RowKit
theorem encs_app {α : Type} {f : α → Option Str} : ∀ {l m : List α} {a b : Str}, encs f l = some a → encs f m = some b → encs f (l ++ m) = some (a ++ b)
 | [], m, a, b, h1, h2 => by
  obtain rfl := Option.some.inj h1
  exact h2
 | x :: l, m, a, b, h1, h2 => by
  simp only [encs] at h1
  split at h1
  ·rename_i u v hu hv
   obtain rfl := Option.some.inj h1
   have := encs_app hv h2
   simp only [List.cons_append, encs, hu, this, List.append_assoc]
  ·cases h1
theorem encs_one {α : Type} {f : α → Option Str} {x : α} {a : Str} (h : f x = some a) : encs f [x] = some a := by
 simp [encs, h]
def Rd {α : Type} (y : Str) (a : Nat) (enc : α → Option Str) (x : α) (r : wire_reader) : Prop := r.s_ = y ∧ ((r.ok_ = true ∧ ∃ p : Nat, r.at_ = (p : Int) ∧ a ≤ p ∧ p ≤ y.length ∧ enc x = some (win y a (p - a))) ∨ r.ok_ = false)
theorem reader_eq {r : wire_reader} {y : Str} {p : Nat} (h1 : r.s_ = y) (h2 : r.at_ = (p : Int)) (h3 : r.ok_ = true) : r = ⟨y, (p : Int), true⟩ := by
 cases r; simp_all
theorem names_loop (y : Str) (hs : y.length ≤ 1000000) (a : Nat) : ∀ (k fuel p : Nat) (acc : List Str), k < fuel → p ≤ y.length → a ≤ p → acc.length + k ≤ 65535 → encs encT acc = some (win y a (p - a)) →
  ∃ l r, loopF wire_reader_names_L1 fuel ((k : Int), ⟨y, (p : Int), true⟩, acc) = some (l, r) ∧ r.s_ = y ∧ ((r.ok_ = true ∧ l.length = acc.length + k ∧ ∃ q : Nat, r.at_ = (q : Int) ∧ a ≤ q ∧ q ≤ y.length ∧ encs encT l = some (win y a (q - a))) ∨ r.ok_ = false)
 | 0, fuel + 1, p, acc, _, hp, ha, _, he => by
  refine ⟨acc, ⟨y, (p : Int), true⟩, loop_done ?_, rfl, .inl ⟨rfl, rfl, p, rfl, ha, hp, he⟩⟩
  unfold wire_reader_names_L1
  exact cond_f rfl rfl
 | k + 1, fuel + 1, p, acc, hk, hp, ha, hl, he => by
  have e1 := rtext y p hp hs
  have hroom : ∀ t : Str, room 16 acc [t] = some (acc ++ [t]) := fun t => room_eq (by simp; omega) (by simp; omega)
  have hw : w64 (((k + 1 : Nat) : Int) - 1) = (k : Int) := by rw [w64_eq ⟨by omega, by omega⟩]; omega
  have hc : (decide (((k + 1 : Nat) : Int) > 0) && true) = true := by simp <;> omega
  cases d1 : takeT y p with
  | none =>
   rw [d1] at e1
   cases fuel with
   | zero => omega
   | succ fuel =>
    refine ⟨acc ++ [[]], ⟨y, (p : Int), false⟩, loop_next (s' := ((k : Int), ⟨y, (p : Int), false⟩, acc ++ [[]])) ?_ (loop_done ?_), rfl, .inr rfl⟩
    ·unfold wire_reader_names_L1
     refine cond_t hc (bind_eq e1 (bind_eq (hroom _) ?_))
     rw [← hw]
    ·unfold wire_reader_names_L1
     exact cond_f (by simp) rfl
  | some q =>
   obtain ⟨t, p1⟩ := q
   rw [d1] at e1
   obtain ⟨h1, h2, h3⟩ := takeT_enc d1
   obtain ⟨l, r, g1, g2, g3⟩ := names_loop y hs a k fuel p1 (acc ++ [t]) (by omega) h1 (by omega) (by simp; omega) (by
    have := encs_app he (encs_one h3)
    rw [win_join y a (p - a) (p1 - p) p (p1 - a) (by omega) (by omega)] at this
    exact this)
   refine ⟨l, r, loop_next ?_ g1, g2, ?_⟩
   ·unfold wire_reader_names_L1
    refine cond_t hc (bind_eq e1 (bind_eq (hroom _) ?_))
    rw [← hw]
   ·rcases g3 with ⟨g4, g5, g6⟩ | g3
    ·exact .inl ⟨g4, by rw [g5]; simp; omega, g6⟩
    ·exact .inr g3
theorem rnames (y : Str) (a : Nat) (h : a ≤ y.length) (hs : y.length ≤ 1000000) : ∃ l r, wire_reader_names ⟨y, (a : Int), true⟩ = some (l, r) ∧ Rd y a (encL encT) l r := by
 have hB : BIG = 18446744073709551616 := rfl
 unfold wire_reader_names
 have e1 := rnum y a 2 (by omega) (by omega) h hs
 rw [show ((2 : Nat) : Int) = 2 from rfl] at e1
 cases d1 : decN y a 2 with
 | none =>
  rw [d1] at e1
  refine ⟨[], ⟨y, (a : Int), false⟩, bind_eq e1 (bind_eq (a := ([], ⟨y, (a : Int), false⟩)) ?_ rfl), rfl, .inr rfl⟩
  rw [show BIG = 18446744073709551615 + 1 from rfl]
  refine loop_done ?_
  unfold wire_reader_names_L1
  exact cond_f rfl rfl
 | some q1 =>
  obtain ⟨n1, p1⟩ := q1
  rw [d1] at e1
  obtain ⟨a1, b1, c1, g1⟩ := decN_enc d1 (by omega)
  have hn : n1 ≤ 65535 := by
   unfold decN at d1
   split at d1
   ·cases d1
   ·split at d1
    ·cases d1
    ·simp only [Option.some.injEq, Prod.mk.injEq] at d1
     obtain ⟨rfl, _⟩ := d1
     have := leV_two y a (by omega)
     omega
  obtain ⟨l, r, k1, k2, k3⟩ := names_loop y hs p1 n1 BIG p1 [] (by omega) b1 (Nat.le_refl _) (by simpa using hn) (by simp [encs, win])
  refine ⟨l, r, bind_eq e1 (bind_eq k1 rfl), k2, ?_⟩
  rcases k3 with ⟨k4, k5, p2, k6, k7, k8, k9⟩ | k3
  ·refine .inl ⟨k4, p2, k6, by omega, k8, ?_⟩
   unfold encL
   have hl : l.length = n1 := by simpa using k5
   rw [if_pos (by omega), k9, hl]
   unfold encN at g1
   split at g1
   ·have g1 := Option.some.inj g1
    rw [g1, Option.map_some, win_join y a 2 (p2 - p1) p1 (p2 - a) (by omega) (by omega)]
   ·cases g1
  ·exact .inr k3
theorem qids_loop (y : Str) (hs : y.length ≤ 1000000) (a : Nat) : ∀ (k fuel p : Nat) (acc : List api_Qid), k < fuel → p ≤ y.length → a ≤ p → acc.length + k ≤ 65535 → encs encQ acc = some (win y a (p - a)) →
  ∃ l r, loopF wire_reader_qids_L1 fuel ((k : Int), ⟨y, (p : Int), true⟩, acc) = some (l, r) ∧ r.s_ = y ∧ ((r.ok_ = true ∧ l.length = acc.length + k ∧ ∃ q : Nat, r.at_ = (q : Int) ∧ a ≤ q ∧ q ≤ y.length ∧ encs encQ l = some (win y a (q - a))) ∨ r.ok_ = false)
 | 0, fuel + 1, p, acc, _, hp, ha, _, he => by
  refine ⟨acc, ⟨y, (p : Int), true⟩, loop_done ?_, rfl, .inl ⟨rfl, rfl, p, rfl, ha, hp, he⟩⟩
  unfold wire_reader_qids_L1
  exact cond_f rfl rfl
 | k + 1, fuel + 1, p, acc, hk, hp, ha, hl, he => by
  obtain ⟨t, r0, e1, hy0, hr0⟩ := rqid y p hp hs
  have hroom : ∀ t : api_Qid, room 24 acc [t] = some (acc ++ [t]) := fun t => room_eq (by simp; omega) (by simp; omega)
  have hw : w64 (((k + 1 : Nat) : Int) - 1) = (k : Int) := by rw [w64_eq ⟨by omega, by omega⟩]; omega
  have hc : (decide (((k + 1 : Nat) : Int) > 0) && true) = true := by simp <;> omega
  rcases hr0 with ⟨hok, p1, hat, h2, h1, h3⟩ | hno
  ·obtain rfl := reader_eq hy0 hat hok
   obtain ⟨l, r, g1, g2, g3⟩ := qids_loop y hs a k fuel p1 (acc ++ [t]) (by omega) h1 (by omega) (by simp; omega) (by
    have := encs_app he (encs_one h3)
    rw [win_join y a (p - a) (p1 - p) p (p1 - a) (by omega) (by omega)] at this
    exact this)
   refine ⟨l, r, loop_next ?_ g1, g2, ?_⟩
   ·unfold wire_reader_qids_L1
    refine cond_t hc (bind_eq e1 (bind_eq (hroom _) ?_))
    rw [← hw]
   ·rcases g3 with ⟨g4, g5, g6⟩ | g3
    ·exact .inl ⟨g4, by rw [g5]; simp; omega, g6⟩
    ·exact .inr g3
  ·cases fuel with
   | zero => omega
   | succ fuel =>
    refine ⟨acc ++ [t], r0, loop_next (s' := ((k : Int), r0, acc ++ [t])) ?_ (loop_done ?_), hy0, .inr hno⟩
    ·unfold wire_reader_qids_L1
     refine cond_t hc (bind_eq e1 (bind_eq (hroom _) ?_))
     rw [← hw]
    ·unfold wire_reader_qids_L1
     exact cond_f (by simp [hno]) rfl
theorem rqids (y : Str) (a : Nat) (h : a ≤ y.length) (hs : y.length ≤ 1000000) : ∃ l r, wire_reader_qids ⟨y, (a : Int), true⟩ = some (l, r) ∧ Rd y a (encL encQ) l r := by
 have hB : BIG = 18446744073709551616 := rfl
 unfold wire_reader_qids
 have e1 := rnum y a 2 (by omega) (by omega) h hs
 rw [show ((2 : Nat) : Int) = 2 from rfl] at e1
 cases d1 : decN y a 2 with
 | none =>
  rw [d1] at e1
  refine ⟨[], ⟨y, (a : Int), false⟩, bind_eq e1 (bind_eq (a := ([], ⟨y, (a : Int), false⟩)) ?_ rfl), rfl, .inr rfl⟩
  rw [show BIG = 18446744073709551615 + 1 from rfl]
  refine loop_done ?_
  unfold wire_reader_qids_L1
  exact cond_f rfl rfl
 | some q1 =>
  obtain ⟨n1, p1⟩ := q1
  rw [d1] at e1
  obtain ⟨a1, b1, c1, g1⟩ := decN_enc d1 (by omega)
  have hn : n1 ≤ 65535 := by
   unfold decN at d1
   split at d1
   ·cases d1
   ·split at d1
    ·cases d1
    ·simp only [Option.some.injEq, Prod.mk.injEq] at d1
     obtain ⟨rfl, _⟩ := d1
     have := leV_two y a (by omega)
     omega
  obtain ⟨l, r, k1, k2, k3⟩ := qids_loop y hs p1 n1 BIG p1 [] (by omega) b1 (Nat.le_refl _) (by simpa using hn) (by simp [encs, win])
  refine ⟨l, r, bind_eq e1 (bind_eq k1 rfl), k2, ?_⟩
  rcases k3 with ⟨k4, k5, p2, k6, k7, k8, k9⟩ | k3
  ·refine .inl ⟨k4, p2, k6, by omega, k8, ?_⟩
   unfold encL
   have hl : l.length = n1 := by simpa using k5
   rw [if_pos (by omega), k9, hl]
   unfold encN at g1
   split at g1
   ·have g1 := Option.some.inj g1
    rw [g1, Option.map_some, win_join y a 2 (p2 - p1) p1 (p2 - a) (by omega) (by omega)]
   ·cases g1
  ·exact .inr k3
theorem rdata (y : Str) (a w : Nat) (h1 : 1 ≤ w) (h8 : w ≤ 8) (h : a ≤ y.length) (hs : y.length ≤ 1000000) : ∃ s r, wire_reader_data ⟨y, (a : Int), true⟩ (w : Int) = some (s, r) ∧ Rd y a (encD · w) s r := by
 unfold wire_reader_data
 have e1 := rnum y a w h1 h8 h hs
 cases d1 : decN y a w with
 | none =>
  rw [d1] at e1
  exact ⟨_, _, bind_eq e1 (cond_t rfl rfl), rfl, .inr rfl⟩
 | some q1 =>
  obtain ⟨n1, p1⟩ := q1
  rw [d1] at e1
  obtain ⟨a1, b1, c1, g1⟩ := decN_enc d1 h8
  have hc1 : n1 ≤ 9223372036854775807 := c1
  have ew : w64 ((y.length : Int) - (p1 : Int)) = ((y.length - p1 : Nat) : Int) := by rw [w64_eq ⟨by omega, by omega⟩]; omega
  by_cases hlt : n1 > y.length - p1
  ·refine ⟨[], ⟨y, (p1 : Int), false⟩, bind_eq e1 (cond_t ?_ rfl), rfl, .inr rfl⟩
   show (!true || decide ((n1 : Int) > w64 ((y.length : Int) - (p1 : Int)))) = true
   rw [ew]; simp; omega
  ·have ex : w64 ((p1 : Int) + (n1 : Int)) = ((p1 + n1 : Nat) : Int) := by rw [w64_eq ⟨by omega, by omega⟩]; omega
   have ey : w64 (((p1 + n1 : Nat) : Int) - (n1 : Int)) = (p1 : Int) := by rw [w64_eq ⟨by omega, by omega⟩]; omega
   refine ⟨win y p1 n1, ⟨y, ((p1 + n1 : Nat) : Int), true⟩, bind_eq e1 (cond_f ?_ ?_), rfl, .inl ⟨rfl, p1 + n1, rfl, by omega, by show p1 + n1 ≤ y.length; omega, ?_⟩⟩
   ·show (!true || decide ((n1 : Int) > w64 ((y.length : Int) - (p1 : Int)))) = false
    rw [ew]; simp; omega
   ·show Option.bind (subI y (w64 (w64 ((p1 : Int) + (n1 : Int)) - (n1 : Int))) (w64 ((p1 : Int) + (n1 : Int)))) _ = _
    rw [ex, ey, ← ex]
    refine bind_eq (win_sub y p1 n1 (by omega) (by omega)) ?_
    show some (win y p1 n1, (⟨y, w64 ((p1 : Int) + (n1 : Int)), true⟩ : wire_reader)) = _
    rw [ex]
   ·have hl : (win y p1 n1).length = n1 := win_len (by omega)
    show encD (win y p1 n1) w = _
    unfold encD
    rw [hl]
    unfold encN at g1
    split at g1
    ·rename_i hf
     have g1 := Option.some.inj g1
     rw [if_pos hf, g1, win_join y a w n1 p1 (p1 + n1 - a) a1 (by omega)]
    ·cases g1
theorem rdata_no (y : Str) (a w : Int) : ∃ s, wire_reader_data ⟨y, a, false⟩ w = some (s, ⟨y, a, false⟩) := by
 unfold wire_reader_data
 exact ⟨_, bind_eq (rnum_no _ _ _) (cond_t rfl rfl)⟩
theorem rstat (y : Str) (a : Nat) (h : a ≤ y.length) (hs : y.length ≤ 1000000) : ∃ d r, wire_reader_stat ⟨y, (a : Int), true⟩ = some (d, r) ∧ Rd y a encS d r := by
 unfold wire_reader_stat
 obtain ⟨s, r, e1, hy, hr⟩ := rdata y a 2 (by omega) (by omega) h hs
 rw [show ((2 : Nat) : Int) = 2 from rfl] at e1
 rcases hr with ⟨hok, p, hat, h1, h2, h3⟩ | hno
 ·obtain rfl := reader_eq hy hat hok
  have h3 : encD s 2 = some (win y a (p - a)) := h3
  have hsl : s.length ≤ y.length := by
   unfold encD at h3
   split at h3
   ·have h3 := congrArg List.length (Option.some.inj h3)
    rw [List.length_append, win_len (by omega)] at h3
    omega
   ·cases h3
  have hg := stat_get_eq s 0 (by omega) (by omega)
  rw [show ((0 : Nat) : Int) = 0 from rfl] at hg
  refine ⟨_, _, bind_eq e1 (cond_f rfl (bind_eq hg rfl)), rfl, ?_⟩
  cases hc : ((getR s 0).2.2 == 0 && (getR s 0).2.1 == (s.length : Int)) with
  | false => exact .inr rfl
  | true =>
   refine .inl ⟨rfl, p, rfl, h1, h2, ?_⟩
   simp only [Bool.and_eq_true, beq_iff_eq] at hc
   obtain ⟨k1, k2⟩ := putB_getR s (getR s 0).1 (by rw [← hc.1, ← hc.2])
   unfold encS
   rw [if_pos k1, k2]
   unfold encD at h3
   split at h3
   ·exact h3
   ·cases h3
 ·refine ⟨_, _, bind_eq e1 (cond_t (by simp [hno]) rfl), hy, .inr hno⟩
theorem rstat_no (y : Str) (a : Int) : ∃ d, wire_reader_stat ⟨y, a, false⟩ = some (d, ⟨y, a, false⟩) := by
 unfold wire_reader_stat
 obtain ⟨s, hs⟩ := rdata_no y a 2
 exact ⟨_, bind_eq hs (cond_t rfl rfl)⟩
end Go.Proofs.YtolgkhjkdadhiaaGreat
namespace Go.Proofs.YtolgkhjkdadhiaaGreat
open Go.Rt Go.RowKit
def faultT (n : Int) : Str := (fault_Text n).getD []
theorem some_cond {α : Type} {c : Bool} {a : α} {x : Option α} (h : x.isSome = true) : (bif c then some a else x).isSome = true := by
 cases c with
 | true => rfl
 | false => exact h
theorem fault_low_some (n : Int) : (fault_low n).isSome = true := by
 unfold fault_low
 repeat (first | rfl | refine some_cond ?_)
theorem fault_high_some (n : Int) : (fault_high n).isSome = true := by
 unfold fault_high
 repeat (first | rfl | refine some_cond ?_)
theorem fault_text (n : Int) : fault_Text n = some (faultT n) := by
 have h : (fault_Text n).isSome = true := by
  unfold fault_Text
  obtain ⟨a, ha⟩ := Option.isSome_iff_exists.1 (fault_low_some n)
  obtain ⟨b, hb⟩ := Option.isSome_iff_exists.1 (fault_high_some n)
  rw [ha, hb]
  cases (decide (n > 0) && decide (n ≤ 24)) <;> rfl
 obtain ⟨a, ha⟩ := Option.isSome_iff_exists.1 h
 unfold faultT
 rw [ha]; rfl
theorem find_loop (x : Str) : ∀ (k fuel i : Nat), i + k = 60 → k < fuel → ∃ o, loopF (fault_Find_L1 x) fuel (i : Int) = some o ∧ ∀ e b, o = .ret (e, b) → b = true ∧ faultT e = x
 | 0, fuel + 1, i, hi, _ => by
  refine ⟨.fall (), loop_done ?_, fun e b h => by cases h⟩
  unfold fault_Find_L1
  exact cond_f (by simp; omega) rfl
 | k + 1, fuel + 1, i, hi, hk => by
  have hc : decide ((i : Int) ≤ 59) = true := by simp; omega
  cases hx : (faultT (i : Int) == x) with
  | true =>
   refine ⟨.ret ((i : Int), true), loop_done ?_, fun e b h => ?_⟩
   ·unfold fault_Find_L1
    refine cond_t hc (bind_eq (fault_text _) ?_)
    exact cond_t hx rfl
   ·simp only [Out.ret.injEq, Prod.mk.injEq] at h
    obtain ⟨rfl, rfl⟩ := h
    exact ⟨rfl, by simpa using hx⟩
  | false =>
   obtain ⟨o, h1, h2⟩ := find_loop x k fuel (i + 1) (by omega) (by omega)
   refine ⟨o, loop_next ?_ h1, h2⟩
   unfold fault_Find_L1
   refine cond_t hc (bind_eq (fault_text _) ?_)
   refine cond_f hx ?_
   rw [w64_eq (n := (i : Int) + 1) ⟨by omega, by omega⟩]
   rfl
theorem find_eq (x : Str) : ∃ e b, fault_Find x = some (e, b) ∧ (b = true → faultT e = x) := by
 unfold fault_Find
 cases h : (x == []) with
 | true => exact ⟨0, false, rfl, fun h => by cases h⟩
 | false =>
  obtain ⟨o, h1, h2⟩ := find_loop x 59 BIG 1 rfl (by show (59 : Nat) < 18446744073709551616; omega)
  rw [show ((1 : Nat) : Int) = 1 from rfl] at h1
  cases o with
  | fall _ => exact ⟨0, false, cond_f rfl (bind_eq h1 rfl), fun h => by cases h⟩
  | ret r =>
   obtain ⟨e, b⟩ := r
   exact ⟨e, b, cond_f rfl (bind_eq h1 rfl), fun _ => (h2 e b rfl).2⟩
theorem rfault (y : Str) (a : Nat) (h : a ≤ y.length) (hs : y.length ≤ 1000000) : ∃ e r, wire_reader_fault ⟨y, (a : Int), true⟩ = some (e, r) ∧ Rd y a (fun n => encT (faultT n)) e r := by
 unfold wire_reader_fault
 have e1 := rtext y a h hs
 cases d1 : takeT y a with
 | none =>
  rw [d1] at e1
  obtain ⟨e, b, h2, _⟩ := find_eq []
  exact ⟨_, _, bind_eq e1 (bind_eq h2 rfl), rfl, .inr rfl⟩
 | some q =>
  obtain ⟨t, p⟩ := q
  rw [d1] at e1
  obtain ⟨k1, k2, k3⟩ := takeT_enc d1
  obtain ⟨e, b, h2, h3⟩ := find_eq t
  refine ⟨_, _, bind_eq e1 (bind_eq h2 rfl), rfl, ?_⟩
  cases b with
  | false => exact .inr rfl
  | true => exact .inl ⟨rfl, p, rfl, k2, k1, by show encT (faultT e) = _; rw [h3 rfl]; exact k3⟩
theorem rfault_no (y : Str) (a : Int) : ∃ e, wire_reader_fault ⟨y, a, false⟩ = some (e, ⟨y, a, false⟩) := by
 unfold wire_reader_fault
 obtain ⟨e, b, h2, _⟩ := find_eq []
 exact ⟨_, bind_eq (rtext_no _ _) (bind_eq h2 rfl)⟩
theorem rnames_no (y : Str) (a : Int) : ∃ l, wire_reader_names ⟨y, a, false⟩ = some (l, ⟨y, a, false⟩) := by
 unfold wire_reader_names
 refine ⟨[], bind_eq (rnum_no _ _ _) (bind_eq (a := ([], ⟨y, a, false⟩)) ?_ rfl)⟩
 rw [show BIG = 18446744073709551615 + 1 from rfl]
 refine loop_done ?_
 unfold wire_reader_names_L1
 exact cond_f rfl rfl
theorem rqids_no (y : Str) (a : Int) : ∃ l, wire_reader_qids ⟨y, a, false⟩ = some (l, ⟨y, a, false⟩) := by
 unfold wire_reader_qids
 refine ⟨[], bind_eq (rnum_no _ _ _) (bind_eq (a := ([], ⟨y, a, false⟩)) ?_ rfl)⟩
 rw [show BIG = 18446744073709551615 + 1 from rfl]
 refine loop_done ?_
 unfold wire_reader_qids_L1
 exact cond_f rfl rfl
inductive Lt where
 | m | v | s | a | u | x | q | f | e | o | n | w | W | M | i | N | p | O | c | d | S | l | t
deriving DecidableEq
def Lt.byte : Lt → Nat
 | .m => 109 | .v => 118 | .s => 115 | .a => 97 | .u => 117 | .x => 120 | .q => 113 | .f => 102 | .e => 101 | .o => 111 | .n => 110 | .w => 119
 | .W => 87 | .M => 77 | .i => 105 | .N => 78 | .p => 112 | .O => 79 | .c => 99 | .d => 100 | .S => 83 | .l => 108 | .t => 116
def encF (k : Lt) (m : api_Msg) : Option Str := match k with
 | .m => encN m.Msize_ 4 | .v => encT m.Version_ | .s => encT m.Session_ | .a => encN m.AuthFid_ 4 | .u => encT m.User_ | .x => encT m.Attach_
 | .q => encQ m.Qid_ | .f => encN m.Fid_ 4 | .e => encT (faultT m.Err_) | .o => encN m.OldTag_ 2 | .n => encN m.NewFid_ 4 | .w => encL encT m.Names_
 | .W => encL encQ m.Qids_ | .M => encN m.Mode_ 1 | .i => encN m.Iounit_ 4 | .N => encT m.Name_ | .p => encN m.Perm_ 4 | .O => encN m.Offset_ 8
 | .c => encN m.Count_ 4 | .d => encD m.Data_ 4 | .S => encS m.Stat_ | .l => encN m.Lease_ 1 | .t => encN m.Term_ 4
def cpF (k : Lt) (m' m : api_Msg) : api_Msg := match k with
 | .m => { m with Msize_ := m'.Msize_ } | .v => { m with Version_ := m'.Version_ } | .s => { m with Session_ := m'.Session_ } | .a => { m with AuthFid_ := m'.AuthFid_ }
 | .u => { m with User_ := m'.User_ } | .x => { m with Attach_ := m'.Attach_ } | .q => { m with Qid_ := m'.Qid_ } | .f => { m with Fid_ := m'.Fid_ }
 | .e => { m with Err_ := m'.Err_ } | .o => { m with OldTag_ := m'.OldTag_ } | .n => { m with NewFid_ := m'.NewFid_ } | .w => { m with Names_ := m'.Names_ }
 | .W => { m with Qids_ := m'.Qids_ } | .M => { m with Mode_ := m'.Mode_ } | .i => { m with Iounit_ := m'.Iounit_ } | .N => { m with Name_ := m'.Name_ }
 | .p => { m with Perm_ := m'.Perm_ } | .O => { m with Offset_ := m'.Offset_ } | .c => { m with Count_ := m'.Count_ } | .d => { m with Data_ := m'.Data_ }
 | .S => { m with Stat_ := m'.Stat_ } | .l => { m with Lease_ := m'.Lease_ } | .t => { m with Term_ := m'.Term_ }
theorem encF_cp (k : Lt) (m' m : api_Msg) : encF k (cpF k m' m) = encF k m' := by cases k <;> rfl
theorem encF_other (k k' : Lt) (h : k ≠ k') (m' m : api_Msg) : encF k (cpF k' m' m) = encF k m := by cases k <;> cases k' <;> first | exact absurd rfl h | rfl
theorem cp_kind (k : Lt) (m' m : api_Msg) : (cpF k m' m).Kind_ = m.Kind_ ∧ (cpF k m' m).Tag_ = m.Tag_ := by cases k <;> exact ⟨rfl, rfl⟩
theorem Rd.cp {α : Type} {y : Str} {a : Nat} {enc : α → Option Str} {x : α} {r : wire_reader} {enc' : api_Msg → Option Str} {m : api_Msg} (h : Rd y a enc x r) (he : enc x = enc' m) : Rd y a enc' m r :=
 ⟨h.1, h.2.imp (fun ⟨h1, p, h2, h3, h4, h5⟩ => ⟨h1, p, h2, h3, h4, he ▸ h5⟩) id⟩
theorem rnumR (y : Str) (a w : Nat) (h1 : 1 ≤ w) (h8 : w ≤ 8) (h : a ≤ y.length) (hs : y.length ≤ 1000000) : ∃ n r, wire_reader_number ⟨y, (a : Int), true⟩ (w : Int) = some (n, r) ∧ Rd y a (fun n => encN n w) n r := by
 have e1 := rnum y a w h1 h8 h hs
 cases d1 : decN y a w with
 | none => rw [d1] at e1; exact ⟨_, _, e1, rfl, .inr rfl⟩
 | some q =>
  obtain ⟨n, p⟩ := q
  rw [d1] at e1
  obtain ⟨a1, b1, c1, g1⟩ := decN_enc d1 h8
  exact ⟨_, _, e1, rfl, .inl ⟨rfl, p, rfl, by omega, b1, by rw [show p - a = w by omega]; exact g1⟩⟩
theorem rtextR (y : Str) (a : Nat) (h : a ≤ y.length) (hs : y.length ≤ 1000000) : ∃ t r, wire_reader_text ⟨y, (a : Int), true⟩ = some (t, r) ∧ Rd y a encT t r := by
 have e1 := rtext y a h hs
 cases d1 : takeT y a with
 | none => rw [d1] at e1; exact ⟨_, _, e1, rfl, .inr rfl⟩
 | some q =>
  obtain ⟨t, p⟩ := q
  rw [d1] at e1
  obtain ⟨k1, k2, k3⟩ := takeT_enc d1
  exact ⟨_, _, e1, rfl, .inl ⟨rfl, p, rfl, k2, k1, k3⟩⟩
theorem rfield (k : Lt) (y : Str) (a : Nat) (m : api_Msg) (h : a ≤ y.length) (hs : y.length ≤ 1000000) : ∃ m' r, wire_reader_field ⟨y, (a : Int), true⟩ m (k.byte : Int) = some (r, cpF k m' m) ∧ Rd y a (encF k) m' r := by
 have N : ∀ w : Nat, 1 ≤ w → w ≤ 8 → _ := fun w h1 h8 => rnumR y a w h1 h8 h hs
 have N1 := N 1 (by omega) (by omega)
 have N2 := N 2 (by omega) (by omega)
 have N4 := N 4 (by omega) (by omega)
 have N8 := N 8 (by omega) (by omega)
 rw [show ((1 : Nat) : Int) = 1 from rfl] at N1
 rw [show ((2 : Nat) : Int) = 2 from rfl] at N2
 rw [show ((4 : Nat) : Int) = 4 from rfl] at N4
 rw [show ((8 : Nat) : Int) = 8 from rfl] at N8
 have T := rtextR y a h hs
 unfold wire_reader_field
 cases k with
 | m => obtain ⟨n, r, e1, e2⟩ := N4; exact ⟨{ m with Msize_ := n }, r, bind_eq e1 rfl, e2.cp rfl⟩
 | v => obtain ⟨n, r, e1, e2⟩ := T; exact ⟨{ m with Version_ := n }, r, bind_eq e1 rfl, e2.cp rfl⟩
 | s => obtain ⟨n, r, e1, e2⟩ := T; exact ⟨{ m with Session_ := n }, r, bind_eq e1 rfl, e2.cp rfl⟩
 | a => obtain ⟨n, r, e1, e2⟩ := N4; exact ⟨{ m with AuthFid_ := n }, r, bind_eq e1 rfl, e2.cp rfl⟩
 | u => obtain ⟨n, r, e1, e2⟩ := T; exact ⟨{ m with User_ := n }, r, bind_eq e1 rfl, e2.cp rfl⟩
 | x => obtain ⟨n, r, e1, e2⟩ := T; exact ⟨{ m with Attach_ := n }, r, bind_eq e1 rfl, e2.cp rfl⟩
 | q => obtain ⟨n, r, e1, e2⟩ := rqid y a h hs; exact ⟨{ m with Qid_ := n }, r, bind_eq e1 rfl, e2⟩
 | f => obtain ⟨n, r, e1, e2⟩ := N4; exact ⟨{ m with Fid_ := n }, r, bind_eq e1 rfl, e2.cp rfl⟩
 | e => obtain ⟨n, r, e1, e2⟩ := rfault y a h hs; exact ⟨{ m with Err_ := n }, r, bind_eq e1 rfl, e2.cp rfl⟩
 | o => obtain ⟨n, r, e1, e2⟩ := N2; exact ⟨{ m with OldTag_ := n }, r, bind_eq e1 rfl, e2.cp rfl⟩
 | n => obtain ⟨n, r, e1, e2⟩ := N4; exact ⟨{ m with NewFid_ := n }, r, bind_eq e1 rfl, e2.cp rfl⟩
 | w => obtain ⟨n, r, e1, e2⟩ := rnames y a h hs; exact ⟨{ m with Names_ := n }, r, bind_eq e1 rfl, e2.cp rfl⟩
 | W => obtain ⟨n, r, e1, e2⟩ := rqids y a h hs; exact ⟨{ m with Qids_ := n }, r, bind_eq e1 rfl, e2.cp rfl⟩
 | M => obtain ⟨n, r, e1, e2⟩ := N1; exact ⟨{ m with Mode_ := n }, r, bind_eq e1 rfl, e2.cp rfl⟩
 | i => obtain ⟨n, r, e1, e2⟩ := N4; exact ⟨{ m with Iounit_ := n }, r, bind_eq e1 rfl, e2.cp rfl⟩
 | N => obtain ⟨n, r, e1, e2⟩ := T; exact ⟨{ m with Name_ := n }, r, bind_eq e1 rfl, e2.cp rfl⟩
 | p => obtain ⟨n, r, e1, e2⟩ := N4; exact ⟨{ m with Perm_ := n }, r, bind_eq e1 rfl, e2.cp rfl⟩
 | O => obtain ⟨n, r, e1, e2⟩ := N8; exact ⟨{ m with Offset_ := n }, r, bind_eq e1 rfl, e2.cp rfl⟩
 | c => obtain ⟨n, r, e1, e2⟩ := N4; exact ⟨{ m with Count_ := n }, r, bind_eq e1 rfl, e2.cp rfl⟩
 | d => obtain ⟨n, r, e1, e2⟩ := rdata y a 4 (by omega) (by omega) h hs; exact ⟨{ m with Data_ := n }, r, bind_eq e1 rfl, e2.cp rfl⟩
 | S => obtain ⟨n, r, e1, e2⟩ := rstat y a h hs; exact ⟨{ m with Stat_ := n }, r, bind_eq e1 rfl, e2.cp rfl⟩
 | l => obtain ⟨n, r, e1, e2⟩ := N1; exact ⟨{ m with Lease_ := n }, r, bind_eq e1 rfl, e2.cp rfl⟩
 | t => obtain ⟨n, r, e1, e2⟩ := N4; exact ⟨{ m with Term_ := n }, r, bind_eq e1 rfl, e2.cp rfl⟩
theorem xnum_no (r : wire_reader) (h : r.ok_ = false) (w : Int) : ∃ n, wire_reader_number r w = some (n, r) := by
 obtain ⟨y, a, o⟩ := r; cases h; exact ⟨_, rnum_no y a w⟩
theorem xtext_no (r : wire_reader) (h : r.ok_ = false) : ∃ n, wire_reader_text r = some (n, r) := by
 obtain ⟨y, a, o⟩ := r; cases h; exact ⟨_, rtext_no y a⟩
theorem xqid_no (r : wire_reader) (h : r.ok_ = false) : ∃ n, wire_reader_qid r = some (n, r) := by
 obtain ⟨y, a, o⟩ := r; cases h; exact rqid_no y a
theorem xfault_no (r : wire_reader) (h : r.ok_ = false) : ∃ n, wire_reader_fault r = some (n, r) := by
 obtain ⟨y, a, o⟩ := r; cases h; exact rfault_no y a
theorem xnames_no (r : wire_reader) (h : r.ok_ = false) : ∃ n, wire_reader_names r = some (n, r) := by
 obtain ⟨y, a, o⟩ := r; cases h; exact rnames_no y a
theorem xqids_no (r : wire_reader) (h : r.ok_ = false) : ∃ n, wire_reader_qids r = some (n, r) := by
 obtain ⟨y, a, o⟩ := r; cases h; exact rqids_no y a
theorem xdata_no (r : wire_reader) (h : r.ok_ = false) (w : Int) : ∃ n, wire_reader_data r w = some (n, r) := by
 obtain ⟨y, a, o⟩ := r; cases h; exact rdata_no y a w
theorem xstat_no (r : wire_reader) (h : r.ok_ = false) : ∃ n, wire_reader_stat r = some (n, r) := by
 obtain ⟨y, a, o⟩ := r; cases h; exact rstat_no y a
theorem rfield_no (k : Lt) (r0 : wire_reader) (h : r0.ok_ = false) (m : api_Msg) : ∃ m', wire_reader_field r0 m (k.byte : Int) = some (r0, cpF k m' m) := by
 unfold wire_reader_field
 cases k with
 | m => obtain ⟨n, e1⟩ := xnum_no r0 h 4; exact ⟨{ m with Msize_ := n }, bind_eq e1 rfl⟩
 | v => obtain ⟨n, e1⟩ := xtext_no r0 h; exact ⟨{ m with Version_ := n }, bind_eq e1 rfl⟩
 | s => obtain ⟨n, e1⟩ := xtext_no r0 h; exact ⟨{ m with Session_ := n }, bind_eq e1 rfl⟩
 | a => obtain ⟨n, e1⟩ := xnum_no r0 h 4; exact ⟨{ m with AuthFid_ := n }, bind_eq e1 rfl⟩
 | u => obtain ⟨n, e1⟩ := xtext_no r0 h; exact ⟨{ m with User_ := n }, bind_eq e1 rfl⟩
 | x => obtain ⟨n, e1⟩ := xtext_no r0 h; exact ⟨{ m with Attach_ := n }, bind_eq e1 rfl⟩
 | q => obtain ⟨n, e1⟩ := xqid_no r0 h; exact ⟨{ m with Qid_ := n }, bind_eq e1 rfl⟩
 | f => obtain ⟨n, e1⟩ := xnum_no r0 h 4; exact ⟨{ m with Fid_ := n }, bind_eq e1 rfl⟩
 | e => obtain ⟨n, e1⟩ := xfault_no r0 h; exact ⟨{ m with Err_ := n }, bind_eq e1 rfl⟩
 | o => obtain ⟨n, e1⟩ := xnum_no r0 h 2; exact ⟨{ m with OldTag_ := n }, bind_eq e1 rfl⟩
 | n => obtain ⟨n, e1⟩ := xnum_no r0 h 4; exact ⟨{ m with NewFid_ := n }, bind_eq e1 rfl⟩
 | w => obtain ⟨n, e1⟩ := xnames_no r0 h; exact ⟨{ m with Names_ := n }, bind_eq e1 rfl⟩
 | W => obtain ⟨n, e1⟩ := xqids_no r0 h; exact ⟨{ m with Qids_ := n }, bind_eq e1 rfl⟩
 | M => obtain ⟨n, e1⟩ := xnum_no r0 h 1; exact ⟨{ m with Mode_ := n }, bind_eq e1 rfl⟩
 | i => obtain ⟨n, e1⟩ := xnum_no r0 h 4; exact ⟨{ m with Iounit_ := n }, bind_eq e1 rfl⟩
 | N => obtain ⟨n, e1⟩ := xtext_no r0 h; exact ⟨{ m with Name_ := n }, bind_eq e1 rfl⟩
 | p => obtain ⟨n, e1⟩ := xnum_no r0 h 4; exact ⟨{ m with Perm_ := n }, bind_eq e1 rfl⟩
 | O => obtain ⟨n, e1⟩ := xnum_no r0 h 8; exact ⟨{ m with Offset_ := n }, bind_eq e1 rfl⟩
 | c => obtain ⟨n, e1⟩ := xnum_no r0 h 4; exact ⟨{ m with Count_ := n }, bind_eq e1 rfl⟩
 | d => obtain ⟨n, e1⟩ := xdata_no r0 h 4; exact ⟨{ m with Data_ := n }, bind_eq e1 rfl⟩
 | S => obtain ⟨n, e1⟩ := xstat_no r0 h; exact ⟨{ m with Stat_ := n }, bind_eq e1 rfl⟩
 | l => obtain ⟨n, e1⟩ := xnum_no r0 h 1; exact ⟨{ m with Lease_ := n }, bind_eq e1 rfl⟩
 | t => obtain ⟨n, e1⟩ := xnum_no r0 h 4; exact ⟨{ m with Term_ := n }, bind_eq e1 rfl⟩
end Go.Proofs.YtolgkhjkdadhiaaGreat
namespace Go.Proofs.YtolgkhjkdadhiaaGreat
open Go.Rt Go.RowKit
theorem some_bind {α β : Type} {x : Option α} {f : α → Option β} (h : x.isSome = true) (hf : ∀ a, x = some a → (f a).isSome = true) : (x.bind f).isSome = true := by
 cases x with
 | none => cases h
 | some a => exact hf a rfl
theorem some_ite {α : Type} {c : Bool} {a b : Option α} (h : c = true → a.isSome = true) (h' : c = false → b.isSome = true) : (bif c then a else b).isSome = true := by
 cases c with
 | true => exact h rfl
 | false => exact h' rfl
theorem Option.get_some {α : Type} {x : Option α} (h : x.isSome = true) : ∃ a, x = some a := Option.isSome_iff_exists.1 h
theorem loop_all3 {α β : Type} {body : Int → Option (Step Int (Out Unit β))} (xs : List α) (p : α → Option β) (hn : xs.length < BIG)
  (hb : ∀ i (h : i < xs.length), body (i : Int) = match p xs[i] with | none => some (.next ((i + 1 : Nat) : Int)) | some r => some (.done (.ret r)))
  (he : body (xs.length : Int) = some (.done (.fall ()))) : loopF body BIG 0 = some (match xs.findSome? p with | none => .fall () | some r => .ret r) := by
 refine loopF_up (J := fun i s b => s = (i : Int) ∧ b = match (xs.drop i).findSome? p with | none => .fall () | some r => .ret r) xs.length hn (fun s b hJ => ?_) (fun i s b hi hJ => ?_) (by simp)
 ·obtain ⟨rfl, rfl⟩ := hJ
  rw [he]; simp
 ·obtain ⟨rfl, rfl⟩ := hJ
  rw [hb i hi, List.drop_eq_getElem_cons hi, List.findSome?_cons]
  cases hp : p xs[i] with
  | none => exact .inr ⟨_, rfl, rfl, rfl⟩
  | some r => exact .inl rfl
theorem find_none {α β : Type} {p : α → Option β} : ∀ {xs : List α}, xs.findSome? p = none → ∀ x ∈ xs, p x = none
 | [], _, x, h => by cases h
 | y :: xs, h, x, hx => by
  rw [List.findSome?_cons] at h
  cases hp : p y with
  | some r => rw [hp] at h; cases h
  | none =>
   rw [hp] at h
   cases hx with
   | head => exact hp
   | tail _ hx => exact find_none h x hx
theorem zip_find {α : Type} [DecidableEq α] : ∀ (xs ys : List α), xs.length = ys.length → (xs.zip ys).findSome? (fun p => if p.1 = p.2 then none else some false) = if xs = ys then none else some false
 | [], [], _ => rfl
 | [], _ :: _, h => by cases h
 | _ :: _, [], h => by cases h
 | x :: xs, y :: ys, h => by
  rw [List.zip_cons_cons, List.findSome?_cons]
  by_cases hx : x = y
  ·subst hx
   simp only [if_true]
   rw [zip_find xs ys (by simpa using h)]
   simp
  ·simp [hx]
theorem zip_len {α : Type} {xs ys : List α} (h : xs.length = ys.length) : (xs.zip ys).length = xs.length := by simp [h]
theorem name_some (k : Int) : (msg_Name k).isSome = true := by
 unfold msg_Name
 refine some_ite (fun _ => rfl) fun h => ?_
 simp only [Bool.or_eq_false_iff, decide_eq_false_iff_not] at h
 obtain ⟨n, hn⟩ : ∃ n : Nat, k - 100 = (n : Int) := ⟨(k - 100).toNat, by omega⟩
 rw [hn, w64_eq (n := (n : Int)) ⟨by omega, by omega⟩]
 refine some_bind ?_ fun _ _ => rfl
 rw [getI_lt (by show n < 32; omega)]; rfl
def inR (x a b : Int) : Int := if a ≤ x ∧ x ≤ b then 0 else 5
theorem in_eq (x a b : Int) : msg_in x a b = some (inR x a b) := by
 unfold msg_in inR
 by_cases h : a ≤ x ∧ x ≤ b
 ·rw [if_pos h]; exact cond_f (by simp; omega) rfl
 ·rw [if_neg h]; exact cond_t (by simp; omega) rfl
theorem fid_eq (x : Int) : msg_fid x = some (inR x 0 4294967294) := by
 unfold msg_fid; rw [in_eq]; rfl
def shortR (s : Str) (n : Int) : Int := if (s.length : Int) ≤ n then 0 else 4
theorem short_eq (s : Str) (n : Int) : msg_short s n = some (shortR s n) := by
 unfold msg_short shortR
 by_cases h : (s.length : Int) ≤ n
 ·rw [if_pos h]; exact cond_f (by simp; omega) rfl
 ·rw [if_neg h]; exact cond_t (by simp; omega) rfl
def first1 (y : Int) : Option Int := if y = 0 then none else some y
def firstR (xs : List Int) : Int := match xs.findSome? first1 with | none => 0 | some y => y
theorem first_eq (xs : List Int) (h : xs.length ≤ 1000000) : msg_first xs = some (firstR xs) := by
 unfold msg_first
 have hB : BIG = 18446744073709551616 := rfl
 refine bind_eq (loop_all3 xs first1 (by omega) (fun i hi => ?_) ?_) ?_
 ·unfold msg_first_L1
  refine cond_t (by simp; omega) (bind_eq (getI_lt hi) ?_)
  rw [w64_eq (n := (i : Int) + 1) ⟨by omega, by omega⟩]
  unfold first1
  by_cases hy : xs[i] = 0
  ·rw [if_pos hy]; exact cond_f (by simp [hy]) rfl
  ·rw [if_neg hy]; exact cond_t (by simp [hy]) rfl
 ·unfold msg_first_L1
  exact cond_f (by simp) rfl
 ·unfold firstR
  cases xs.findSome? first1 <;> rfl
theorem first_zero {xs : List Int} (h : firstR xs = 0) : ∀ x ∈ xs, x = 0 := by
 unfold firstR at h
 have key : xs.findSome? first1 = none := by
  cases e : xs.findSome? first1 with
  | none => rfl
  | some y =>
   rw [e] at h
   obtain ⟨a, _, ha⟩ := List.exists_of_findSome?_eq_some e
   unfold first1 at ha
   split at ha
   ·cases ha
   ·cases ha; exact absurd h ‹_›
 intro x hx
 have := find_none key x hx
 unfold first1 at this
 split at this
 ·assumption
 ·cases this
def qidR (q : api_Qid) : Int := if decide (q.Type_ < 0) || (andNotI .i64 q.Type_ 232 != 0) then 5 else firstR [inR q.Vers_ 0 2147483647, inR q.Path_ 0 1099511627776]
theorem qid_eq (q : api_Qid) : msg_qid q = some (qidR q) := by
 unfold msg_qid qidR
 cases h : (decide (q.Type_ < 0) || (andNotI .i64 q.Type_ 232 != 0)) with
 | true => rfl
 | false => exact cond_f rfl (bind_eq (in_eq _ _ _) (bind_eq (in_eq _ _ _) (bind_eq (first_eq _ (by simp)) rfl)))
def name1 (s : Str) : Option Int := if s = [46, 46] ∨ okName s = true then none else some 6
def namesR (l : List Str) : Int := if l.length > 16 then 4 else match l.findSome? name1 with | none => 0 | some y => y
theorem names_eq (l : List Str) (hl : ∀ s ∈ l, s.length ≤ 9223372036854775807) : msg_names l = some (namesR l) := by
 unfold msg_names namesR
 have hB : BIG = 18446744073709551616 := rfl
 by_cases h : l.length > 16
 ·rw [if_pos h]; exact cond_t (by simp; omega) rfl
 ·rw [if_neg h]
  refine cond_f (by simp; omega) (bind_eq (loop_all3 l name1 (by omega) (fun i hi => ?_) ?_) ?_)
  ·unfold msg_names_L1
   refine cond_t (by simp; omega) (bind_eq (getI_lt hi) ?_)
   rw [w64_eq (n := (i : Int) + 1) ⟨by omega, by omega⟩, valid_eq _ (hl _ (List.getElem_mem hi))]
   generalize l[i] = s
   unfold name1
   by_cases h1 : s = [46, 46]
   ·subst h1; rfl
   ·have h2 : (!(s == [46, 46])) = true := by simpa using h1
    rw [h2]
    cases okName s <;> simp [h1]
  ·unfold msg_names_L1
   exact cond_f (by simp) rfl
  ·cases l.findSome? name1 <;> rfl
def qid1 (q : api_Qid) : Option Int := first1 (qidR q)
def qidsR (l : List api_Qid) : Int := if l.length > 16 then 4 else match l.findSome? qid1 with | none => 0 | some y => y
theorem qids_eq (l : List api_Qid) : msg_qids l = some (qidsR l) := by
 unfold msg_qids qidsR
 have hB : BIG = 18446744073709551616 := rfl
 by_cases h : l.length > 16
 ·rw [if_pos h]; exact cond_t (by simp; omega) rfl
 ·rw [if_neg h]
  refine cond_f (by simp; omega) (bind_eq (loop_all3 l qid1 (by omega) (fun i hi => ?_) ?_) ?_)
  ·unfold msg_qids_L1
   refine cond_t (by simp; omega) (bind_eq (getI_lt hi) (bind_eq (qid_eq _) ?_))
   rw [w64_eq (n := (i : Int) + 1) ⟨by omega, by omega⟩]
   unfold qid1 first1
   by_cases hy : qidR l[i] = 0
   ·rw [if_pos hy]; exact cond_f (by simp [hy]) rfl
   ·rw [if_neg hy]; exact cond_t (by simp [hy]) rfl
  ·unfold msg_qids_L1
   exact cond_f (by simp) rfl
  ·cases l.findSome? qid1 <;> rfl
theorem named_eq (s : Str) (h : s.length ≤ 9223372036854775807) : msg_named s = some (if okName s then 0 else 6) := by
 unfold msg_named
 refine bind_eq (valid_eq s h) ?_
 cases okName s <;> rfl
theorem strs_eq (xs ys : List Str) (h : xs.length ≤ 9223372036854775807) : slices_Equal_stringstring xs ys = some (decide (xs = ys)) := by
 unfold slices_Equal_stringstring
 have hB : BIG = 18446744073709551616 := rfl
 by_cases hl : xs.length = ys.length
 ·refine cond_f (by simp; omega) (bind_eq (loop_all3 (xs.zip ys) (fun p => if p.1 = p.2 then none else some false) (by rw [zip_len hl]; omega) (fun i hi => ?_) ?_) ?_)
  ·rw [zip_len hl] at hi
   unfold slices_Equal_stringstring_L1
   refine cond_t (by simp; omega) (bind_eq (getI_lt hi) (bind_eq (getI_lt (hl ▸ hi)) ?_))
   rw [w64_eq (n := (i : Int) + 1) ⟨by omega, by omega⟩]
   rw [List.getElem_zip]
   by_cases he : xs[i] = ys[i]
   ·simp only [he, if_true]; exact cond_f (by simp) rfl
   ·simp only [he, if_false]; exact cond_t (by simpa using he) rfl
  ·rw [zip_len hl]
   unfold slices_Equal_stringstring_L1
   exact cond_f (by simp) rfl
  ·rw [zip_find xs ys hl]
   by_cases he : xs = ys <;> simp [he]
 ·refine cond_t (by simp; omega) ?_
  have : xs ≠ ys := fun h => hl (by rw [h])
  simp [this]
theorem qidl_eq (xs ys : List api_Qid) (h : xs.length ≤ 9223372036854775807) : slices_Equal_apiQidapiQid xs ys = some (decide (xs = ys)) := by
 unfold slices_Equal_apiQidapiQid
 have hB : BIG = 18446744073709551616 := rfl
 by_cases hl : xs.length = ys.length
 ·refine cond_f (by simp; omega) (bind_eq (loop_all3 (xs.zip ys) (fun p => if p.1 = p.2 then none else some false) (by rw [zip_len hl]; omega) (fun i hi => ?_) ?_) ?_)
  ·rw [zip_len hl] at hi
   unfold slices_Equal_apiQidapiQid_L1
   refine cond_t (by simp; omega) (bind_eq (getI_lt hi) (bind_eq (getI_lt (hl ▸ hi)) ?_))
   rw [w64_eq (n := (i : Int) + 1) ⟨by omega, by omega⟩]
   rw [List.getElem_zip]
   by_cases he : xs[i] = ys[i]
   ·simp only [he, if_true]; exact cond_f (by simp) rfl
   ·simp only [he, if_false]; exact cond_t (by simp) rfl
  ·rw [zip_len hl]
   unfold slices_Equal_apiQidapiQid_L1
   exact cond_f (by simp) rfl
  ·rw [zip_find xs ys hl]
   by_cases he : xs = ys <;> simp [he]
 ·refine cond_t (by simp; omega) ?_
  have : xs ≠ ys := fun h => hl (by rw [h])
  simp [this]
def api_Msg.small (m : api_Msg) : Prop := m.Names_.length ≤ 9223372036854775807 ∧ (∀ s ∈ m.Names_, s.length ≤ 9223372036854775807) ∧ m.Qids_.length ≤ 9223372036854775807 ∧ m.Name_.length ≤ 9223372036854775807 ∧ m.Stat_.ok
theorem same_eq (x y : api_Msg) (hx : x.Names_.length ≤ 9223372036854775807) (hq : x.Qids_.length ≤ 9223372036854775807) : msg_Same x y = some (decide (x = y)) := by
 unfold msg_Same msg_Same_1 msg_Same_2
 rw [strs_eq x.Names_ y.Names_ hx, qidl_eq x.Qids_ y.Qids_ hq]
 obtain ⟨x1, x2, x3, x4, x5, x6, x7, x8, x9, x10, x11, x12, x13, x14, x15, x16, x17, x18, x19, x20, x21, x22, x23, x24, x25⟩ := x
 obtain ⟨y1, y2, y3, y4, y5, y6, y7, y8, y9, y10, y11, y12, y13, y14, y15, y16, y17, y18, y19, y20, y21, y22, y23, y24, y25⟩ := y
 simp only [Option.bind_some, Arr13_int.mk.injEq, Arr6_string.mk.injEq, api_Msg.mk.injEq]
 by_cases a1 : x1 = y1 ∧ x2 = y2 ∧ x3 = y3 ∧ x4 = y4 ∧ x5 = y5 ∧ x6 = y6 ∧ x7 = y7 ∧ x14 = y14 ∧ x15 = y15 ∧ x16 = y16 ∧ x18 = y18 ∧ x19 = y19 ∧ x23 = y23
 ·by_cases a2 : x8 = y8 ∧ x9 = y9 ∧ x10 = y10 ∧ x17 = y17 ∧ x20 = y20 ∧ x25 = y25
  ·by_cases b1 : x24 = y24 <;> by_cases b2 : x22 = y22 <;> by_cases b3 : x13 = y13 <;> by_cases b4 : x21 = y21 <;> by_cases b5 : x11 = y11 <;> by_cases b6 : x12 = y12 <;>
   simp only [a1, a2, b1, b2, b3, b4, b5, b6, and_true, and_false, and_self, decide_true, decide_false, cond_true, cond_false, Option.bind_some, beq_self_eq_true, show ∀ a b : Int, (a == b) = decide (a = b) from fun _ _ => rfl, Bool.and_true, Bool.and_false]
  ·have : ¬ (x1 = y1 ∧ x2 = y2 ∧ x3 = y3 ∧ x4 = y4 ∧ x5 = y5 ∧ x6 = y6 ∧ x7 = y7 ∧ x8 = y8 ∧ x9 = y9 ∧ x10 = y10 ∧ x11 = y11 ∧ x12 = y12 ∧ x13 = y13 ∧ x14 = y14 ∧ x15 = y15 ∧ x16 = y16 ∧ x17 = y17 ∧ x18 = y18 ∧ x19 = y19 ∧ x20 = y20 ∧ x21 = y21 ∧ x22 = y22 ∧ x23 = y23 ∧ x24 = y24 ∧ x25 = y25) := fun h => a2 ⟨h.2.2.2.2.2.2.2.1, h.2.2.2.2.2.2.2.2.1, h.2.2.2.2.2.2.2.2.2.1, h.2.2.2.2.2.2.2.2.2.2.2.2.2.2.2.2.1, h.2.2.2.2.2.2.2.2.2.2.2.2.2.2.2.2.2.2.2.1, h.2.2.2.2.2.2.2.2.2.2.2.2.2.2.2.2.2.2.2.2.2.2.2.2⟩
   simp only [decide_eq_true a1, decide_eq_false a2, decide_eq_false this, cond_true, cond_false, Option.bind_some, Bool.false_and]
 ·have : ¬ (x1 = y1 ∧ x2 = y2 ∧ x3 = y3 ∧ x4 = y4 ∧ x5 = y5 ∧ x6 = y6 ∧ x7 = y7 ∧ x8 = y8 ∧ x9 = y9 ∧ x10 = y10 ∧ x11 = y11 ∧ x12 = y12 ∧ x13 = y13 ∧ x14 = y14 ∧ x15 = y15 ∧ x16 = y16 ∧ x17 = y17 ∧ x18 = y18 ∧ x19 = y19 ∧ x20 = y20 ∧ x21 = y21 ∧ x22 = y22 ∧ x23 = y23 ∧ x24 = y24 ∧ x25 = y25) := fun h => a1 ⟨h.1, h.2.1, h.2.2.1, h.2.2.2.1, h.2.2.2.2.1, h.2.2.2.2.2.1, h.2.2.2.2.2.2.1, h.2.2.2.2.2.2.2.2.2.2.2.2.2.1, h.2.2.2.2.2.2.2.2.2.2.2.2.2.2.1, h.2.2.2.2.2.2.2.2.2.2.2.2.2.2.2.1, h.2.2.2.2.2.2.2.2.2.2.2.2.2.2.2.2.2.1, h.2.2.2.2.2.2.2.2.2.2.2.2.2.2.2.2.2.2.1, h.2.2.2.2.2.2.2.2.2.2.2.2.2.2.2.2.2.2.2.2.2.2.1⟩
  simp only [decide_eq_false a1, decide_eq_false this, cond_false, Option.bind_some, Bool.false_and]
theorem tagged_some (m : api_Msg) : (msg_tagged m).isSome = true := by
 unfold msg_tagged
 repeat (first | rfl | refine some_bind ?_ fun _ _ => ?_ | refine some_ite (fun _ => ?_) fun _ => ?_)
theorem fields_some (m : api_Msg) (h : m.small) : (msg_fields m).isSome = true := by
 obtain ⟨_, h2, _, h4, h5⟩ := h
 unfold msg_fields
 rw [names_eq _ h2, named_eq _ h4, check_eq _ h5 h5.2.2.2.2.2.2.2.1]
 simp only [in_eq, short_eq, fid_eq, qid_eq, qids_eq]
 repeat (first | rfl | refine some_ite (fun _ => ?_) fun _ => ?_ | (refine some_bind (by rw [first_eq _ (by simp)]; rfl) fun _ _ => ?_) | refine some_bind ?_ fun _ _ => ?_)
def Lt.b8 (k : Lt) : UInt8 := UInt8.ofNat k.byte
theorem Lt.b8_nat (k : Lt) : k.b8.toNat = k.byte := by cases k <;> rfl
def layB (l : List Lt) : Str := l.map Lt.b8
def cps (l : List Lt) (m' m : api_Msg) : api_Msg := l.foldl (fun a k => cpF k m' a) m
def zeroM (k t : Int) : api_Msg := api_Msg.mk k t 0 0 0 0 0 [] [] [] [] [] (api_Qid.mk 0 0 0) 0 0 0 [] 0 0 [] (api_Dir.mk 0 0 (api_Qid.mk 0 0 0) 0 0 0 0 [] [] [] []) 0 0 0 []
def Lays (o : Option Str) : Prop := ∃ l : List Lt, o = some (layB l) ∧ l.Nodup ∧ l.length ≤ 100
theorem Lays.ite {c : Bool} {a b : Option Str} (h : Lays a) (h' : Lays b) : Lays (bif c then a else b) := by
 cases c with
 | true => exact h
 | false => exact h'
theorem Lays.bind {α : Type} {x : Option α} {f : α → Option Str} (h : x.isSome = true) (hf : ∀ a, Lays (f a)) : Lays (x.bind f) := by
 cases x with
 | none => cases h
 | some a => exact hf a
theorem lay_any (k : Int) : Lays (wire_layout k) := by
 unfold wire_layout
 refine Lays.ite ⟨[.m, .v], rfl, by decide, by decide⟩ ?_
 refine Lays.ite ⟨[.m, .v, .s], rfl, by decide, by decide⟩ ?_
 refine Lays.ite ⟨[.a, .u, .x], rfl, by decide, by decide⟩ ?_
 refine Lays.bind (by repeat (first | rfl | refine some_ite (fun _ => ?_) fun _ => ?_)) fun _ => ?_
 refine Lays.ite ⟨[.q], rfl, by decide, by decide⟩ ?_
 refine Lays.ite ⟨[.f, .a, .u, .x], rfl, by decide, by decide⟩ ?_
 refine Lays.ite ⟨[.e], rfl, by decide, by decide⟩ ?_
 refine Lays.ite ⟨[.o], rfl, by decide, by decide⟩ ?_
 refine Lays.ite ⟨[.f, .n, .w], rfl, by decide, by decide⟩ ?_
 refine Lays.ite ⟨[.W], rfl, by decide, by decide⟩ ?_
 refine Lays.ite ⟨[.f, .M], rfl, by decide, by decide⟩ ?_
 refine Lays.bind (by repeat (first | rfl | refine some_ite (fun _ => ?_) fun _ => ?_)) fun _ => ?_
 refine Lays.ite ⟨[.q, .i], rfl, by decide, by decide⟩ ?_
 refine Lays.ite ⟨[.f, .N, .p, .M], rfl, by decide, by decide⟩ ?_
 refine Lays.ite ⟨[.f, .O, .c], rfl, by decide, by decide⟩ ?_
 refine Lays.ite ⟨[.d], rfl, by decide, by decide⟩ ?_
 refine Lays.ite ⟨[.f, .O, .d], rfl, by decide, by decide⟩ ?_
 refine Lays.ite ⟨[.c], rfl, by decide, by decide⟩ ?_
 refine Lays.bind (by repeat (first | rfl | refine some_ite (fun _ => ?_) fun _ => ?_)) fun _ => ?_
 refine Lays.ite ⟨[.f], rfl, by decide, by decide⟩ ?_
 refine Lays.ite ⟨[.S], rfl, by decide, by decide⟩ ?_
 refine Lays.ite ⟨[.f, .S], rfl, by decide, by decide⟩ ?_
 refine Lays.ite ⟨[.f, .l, .t], rfl, by decide, by decide⟩ ?_
 refine Lays.ite ⟨[.q, .l, .t], rfl, by decide, by decide⟩ ?_
 refine Lays.ite ⟨[.s], rfl, by decide, by decide⟩ ?_
 exact ⟨[], rfl, by decide, by decide⟩
theorem named_kind {k : Int} {t : Str} (h : msg_Name k = some t) (ht : t ≠ []) : k = 100 ∨ k = 101 ∨ k = 102 ∨ k = 103 ∨ k = 104 ∨ k = 105 ∨ k = 107 ∨ k = 108 ∨ k = 109 ∨ k = 110 ∨ k = 111 ∨ k = 112 ∨ k = 113 ∨ k = 114 ∨ k = 115 ∨ k = 116 ∨ k = 117 ∨ k = 118 ∨ k = 119 ∨ k = 120 ∨ k = 121 ∨ k = 122 ∨ k = 123 ∨ k = 124 ∨ k = 125 ∨ k = 126 ∨ k = 127 ∨ k = 128 ∨ k = 129 ∨ k = 130 ∨ k = 131 := by
 unfold msg_Name at h
 cases hc : (decide (k < 100) || decide (k > 131)) with
 | true => rw [hc] at h; exact absurd (Option.some.inj h).symm ht
 | false =>
  simp only [Bool.or_eq_false_iff, decide_eq_false_iff_not] at hc
  by_cases h6 : k = 106
  ·subst h6; exact absurd (Option.some.inj h).symm ht
  ·omega
theorem lay_only (m : api_Msg) {t : Str} (h : msg_Name m.Kind_ = some t) (ht : t ≠ []) : ∃ l : List Lt, wire_layout m.Kind_ = some (layB l) ∧ l.Nodup ∧ l.length ≤ 100 ∧ msg_only m = some (cps l m (zeroM m.Kind_ m.Tag_)) := by
 have hk := named_kind h ht
 clear h ht
 obtain ⟨x1, x2, x3, x4, x5, x6, x7, x8, x9, x10, x11, x12, x13, x14, x15, x16, x17, x18, x19, x20, x21, x22, x23, x24, x25⟩ := m
 simp only at hk
 rcases hk with rfl | rfl | rfl | rfl | rfl | rfl | rfl | rfl | rfl | rfl | rfl | rfl | rfl | rfl | rfl | rfl | rfl | rfl | rfl | rfl | rfl | rfl | rfl | rfl | rfl | rfl | rfl | rfl | rfl | rfl | rfl
 ·exact ⟨[.m, .v], rfl, by decide, by decide, rfl⟩
 ·exact ⟨[.m, .v, .s], rfl, by decide, by decide, rfl⟩
 ·exact ⟨[.a, .u, .x], rfl, by decide, by decide, rfl⟩
 ·exact ⟨[.q], rfl, by decide, by decide, rfl⟩
 ·exact ⟨[.f, .a, .u, .x], rfl, by decide, by decide, rfl⟩
 ·exact ⟨[.q], rfl, by decide, by decide, rfl⟩
 ·exact ⟨[.e], rfl, by decide, by decide, rfl⟩
 ·exact ⟨[.o], rfl, by decide, by decide, rfl⟩
 ·exact ⟨[], rfl, by decide, by decide, rfl⟩
 ·exact ⟨[.f, .n, .w], rfl, by decide, by decide, rfl⟩
 ·exact ⟨[.W], rfl, by decide, by decide, rfl⟩
 ·exact ⟨[.f, .M], rfl, by decide, by decide, rfl⟩
 ·exact ⟨[.q, .i], rfl, by decide, by decide, rfl⟩
 ·exact ⟨[.f, .N, .p, .M], rfl, by decide, by decide, rfl⟩
 ·exact ⟨[.q, .i], rfl, by decide, by decide, rfl⟩
 ·exact ⟨[.f, .O, .c], rfl, by decide, by decide, rfl⟩
 ·exact ⟨[.d], rfl, by decide, by decide, rfl⟩
 ·exact ⟨[.f, .O, .d], rfl, by decide, by decide, rfl⟩
 ·exact ⟨[.c], rfl, by decide, by decide, rfl⟩
 ·exact ⟨[.f], rfl, by decide, by decide, rfl⟩
 ·exact ⟨[], rfl, by decide, by decide, rfl⟩
 ·exact ⟨[.f], rfl, by decide, by decide, rfl⟩
 ·exact ⟨[], rfl, by decide, by decide, rfl⟩
 ·exact ⟨[.f], rfl, by decide, by decide, rfl⟩
 ·exact ⟨[.S], rfl, by decide, by decide, rfl⟩
 ·exact ⟨[.f, .S], rfl, by decide, by decide, rfl⟩
 ·exact ⟨[], rfl, by decide, by decide, rfl⟩
 ·exact ⟨[.f, .l, .t], rfl, by decide, by decide, rfl⟩
 ·exact ⟨[.q, .l, .t], rfl, by decide, by decide, rfl⟩
 ·exact ⟨[.s], rfl, by decide, by decide, rfl⟩
 ·exact ⟨[], rfl, by decide, by decide, rfl⟩
theorem cps_small {m' : api_Msg} : ∀ (l : List Lt) {m : api_Msg}, m'.Names_.length ≤ 9223372036854775807 → m'.Qids_.length ≤ 9223372036854775807 → m.Names_.length ≤ 9223372036854775807 → m.Qids_.length ≤ 9223372036854775807 → (cps l m' m).Names_.length ≤ 9223372036854775807 ∧ (cps l m' m).Qids_.length ≤ 9223372036854775807
 | [], _, _, _, h3, h4 => ⟨h3, h4⟩
 | k :: l, m, h1, h2, h3, h4 => by
  show (cps l m' (cpF k m' m)).Names_.length ≤ _ ∧ _
  refine cps_small l h1 h2 ?_ ?_
  ·cases k <;> first | exact h3 | exact h1
  ·cases k <;> first | exact h4 | exact h2
theorem check_some (m : api_Msg) (h : m.small) : ∃ c, msg_Check m = some c := by
 apply Option.get_some
 unfold msg_Check
 refine some_bind (name_some _) fun t ht => some_ite (fun _ => rfl) fun hn => ?_
 obtain ⟨l, _, _, _, ho⟩ := lay_only m ht (by simp at hn; exact hn)
 refine some_bind (tagged_some m) fun _ _ => some_ite (fun _ => rfl) fun _ => some_bind (by rw [ho]; rfl) fun x hx => ?_
 have hx' : x.Names_.length ≤ 9223372036854775807 ∧ x.Qids_.length ≤ 9223372036854775807 := by
  rw [ho] at hx
  cases hx
  exact cps_small l h.1 h.2.2.1 (by simp [zeroM]) (by simp [zeroM])
 refine some_bind (by rw [same_eq x m hx'.1 hx'.2]; rfl) fun _ _ => some_ite (fun _ => rfl) fun _ => some_bind (fields_some m h) fun _ _ => rfl
end Go.Proofs.YtolgkhjkdadhiaaGreat
namespace Go.Proofs.YtolgkhjkdadhiaaGreat
open Go.Rt Go.RowKit
theorem wadd (w t : Str) (e : Int) (h : w.length + t.length ≤ 9223372036854775807) : wire_writer_add ⟨w, 0⟩ t e = some ⟨w ++ t, e⟩ := by
 unfold wire_writer_add
 exact cond_t rfl (bind_eq (cat_eq h) rfl)
theorem encN_some {n : Int} {k : Nat} {t : Str} (h : encN n k = some t) : fitsW n k = true ∧ t = leB n k := by
 unfold encN at h
 cases hf : fitsW n k with
 | true => rw [hf] at h; exact ⟨rfl, (Option.some.inj h).symm⟩
 | false => rw [hf] at h; cases h
theorem wnum {w : Str} {n : Int} {k : Nat} {t : Str} (h1 : 1 ≤ k) (h8 : k ≤ 8) (he : encN n k = some t) (h : w.length + t.length ≤ 9223372036854775807) : wire_writer_number ⟨w, 0⟩ n (k : Int) = some ⟨w ++ t, 0⟩ := by
 obtain ⟨a, rfl⟩ := encN_some he
 unfold wire_writer_number
 refine bind_eq (octet_put_all n k h1 h8) ?_
 rw [if_pos a]
 exact bind_eq (wadd w _ 0 h) rfl
theorem encT_some {s t : Str} (h : encT s = some t) : s.length ≤ 65535 ∧ t = textB s := by
 unfold encT at h
 split at h
 ·exact ⟨‹_›, (Option.some.inj h).symm⟩
 ·cases h
theorem wtext {w s t : Str} (he : encT s = some t) (h : w.length + t.length ≤ 9223372036854775807) : wire_writer_text ⟨w, 0⟩ s = some ⟨w ++ t, 0⟩ := by
 obtain ⟨a, rfl⟩ := encT_some he
 unfold wire_writer_text
 exact bind_eq (text_put s a) (bind_eq (wadd w _ 0 h) rfl)
theorem encQ_some {q : api_Qid} {t : Str} (h : encQ q = some t) : fitsW q.Type_ 1 = true ∧ fitsW q.Vers_ 4 = true ∧ fitsW q.Path_ 8 = true ∧ t = leB q.Type_ 1 ++ leB q.Vers_ 4 ++ leB q.Path_ 8 := by
 unfold encQ at h
 split at h
 ·rename_i hc
  simp only [Bool.and_eq_true] at hc
  exact ⟨hc.1.1, hc.1.2, hc.2, (Option.some.inj h).symm⟩
 ·cases h
theorem wqid {w : Str} {q : api_Qid} {t : Str} (he : encQ q = some t) (h : w.length + t.length ≤ 9223372036854775807) : wire_writer_qid ⟨w, 0⟩ q = some ⟨w ++ t, 0⟩ := by
 obtain ⟨a, b, c, rfl⟩ := encQ_some he
 simp only [List.length_append] at h
 unfold wire_writer_qid
 refine bind_eq (wnum (k := 1) (t := leB q.Type_ 1) (by omega) (by omega) (by unfold encN; rw [if_pos a]) (by omega)) ?_
 refine bind_eq (wnum (k := 4) (t := leB q.Vers_ 4) (by omega) (by omega) (by unfold encN; rw [if_pos b]) (by simp only [List.length_append]; omega)) ?_
 refine bind_eq (wnum (k := 8) (t := leB q.Path_ 8) (by omega) (by omega) (by unfold encN; rw [if_pos c]) (by simp only [List.length_append]; omega)) ?_
 simp only [List.append_assoc]
theorem encs_cons {α : Type} {f : α → Option Str} {x : α} {l : List α} {t : Str} (h : encs f (x :: l) = some t) : ∃ a b, f x = some a ∧ encs f l = some b ∧ t = a ++ b := by
 unfold encs at h
 cases hx : f x with
 | none => rw [hx] at h; cases h
 | some a =>
  cases hl : encs f l with
  | none => rw [hx, hl] at h; cases h
  | some b => rw [hx, hl] at h; exact ⟨a, b, rfl, rfl, (Option.some.inj h).symm⟩
theorem wnames_loop (l : List Str) (hl : l.length ≤ 65535) : ∀ (k fuel i : Nat) (w t : Str), i + k = l.length → k < fuel → encs encT (l.drop i) = some t → w.length + t.length ≤ 9223372036854775807 → loopF (wire_writer_names_L1 l) fuel ((i : Int), ⟨w, 0⟩) = some ⟨w ++ t, 0⟩
 | 0, fuel + 1, i, w, t, hi, _, he, _ => by
  rw [show l.drop i = [] from List.drop_eq_nil_of_le (by omega)] at he
  cases he
  refine loop_done ?_
  unfold wire_writer_names_L1
  exact cond_f (by simp; omega) (by simp)
 | k + 1, fuel + 1, i, w, t, hi, hk, he, h => by
  have hlt : i < l.length := by omega
  rw [List.drop_eq_getElem_cons hlt] at he
  obtain ⟨a, b, h1, h2, rfl⟩ := encs_cons he
  simp only [List.length_append] at h
  have ih := wnames_loop l hl k fuel (i + 1) (w ++ a) b (by omega) (by omega) h2 (by simp only [List.length_append]; omega)
  rw [List.append_assoc] at ih
  refine loop_next ?_ ih
  unfold wire_writer_names_L1
  refine cond_t (by simp; omega) (bind_eq (getI_lt hlt) (bind_eq (wtext h1 (by omega)) ?_))
  rw [w64_eq (n := (i : Int) + 1) ⟨by omega, by omega⟩]; rfl
theorem wqids_loop (l : List api_Qid) (hl : l.length ≤ 65535) : ∀ (k fuel i : Nat) (w t : Str), i + k = l.length → k < fuel → encs encQ (l.drop i) = some t → w.length + t.length ≤ 9223372036854775807 → loopF (wire_writer_qids_L1 l) fuel ((i : Int), ⟨w, 0⟩) = some ⟨w ++ t, 0⟩
 | 0, fuel + 1, i, w, t, hi, _, he, _ => by
  rw [show l.drop i = [] from List.drop_eq_nil_of_le (by omega)] at he
  cases he
  refine loop_done ?_
  unfold wire_writer_qids_L1
  exact cond_f (by simp; omega) (by simp)
 | k + 1, fuel + 1, i, w, t, hi, hk, he, h => by
  have hlt : i < l.length := by omega
  rw [List.drop_eq_getElem_cons hlt] at he
  obtain ⟨a, b, h1, h2, rfl⟩ := encs_cons he
  simp only [List.length_append] at h
  have ih := wqids_loop l hl k fuel (i + 1) (w ++ a) b (by omega) (by omega) h2 (by simp only [List.length_append]; omega)
  rw [List.append_assoc] at ih
  refine loop_next ?_ ih
  unfold wire_writer_qids_L1
  refine cond_t (by simp; omega) (bind_eq (getI_lt hlt) (bind_eq (wqid h1 (by omega)) ?_))
  rw [w64_eq (n := (i : Int) + 1) ⟨by omega, by omega⟩]; rfl
theorem encL_some {α : Type} {f : α → Option Str} {l : List α} {t : Str} (h : encL f l = some t) : l.length ≤ 65535 ∧ ∃ b, encs f l = some b ∧ t = leB (l.length : Int) 2 ++ b := by
 unfold encL at h
 split at h
 ·rename_i hc
  refine ⟨hc, ?_⟩
  cases hl : encs f l with
  | none => rw [hl] at h; cases h
  | some b => rw [hl] at h; exact ⟨b, rfl, (Option.some.inj h).symm⟩
 ·cases h
theorem len_enc (n : Nat) (h : n ≤ 65535) : encN (n : Int) 2 = some (leB (n : Int) 2) := by
 have : fitsW (n : Int) 2 = true := by
  unfold fitsW
  simp only [Bool.and_eq_true, Bool.or_eq_true, decide_eq_true_eq]
  exact ⟨by omega, .inr (by omega)⟩
 unfold encN; rw [if_pos this]
theorem wnames {w : Str} {l : List Str} {t : Str} (he : encL encT l = some t) (h : w.length + t.length ≤ 9223372036854775807) : wire_writer_names ⟨w, 0⟩ l = some ⟨w ++ t, 0⟩ := by
 obtain ⟨hl, b, h1, rfl⟩ := encL_some he
 simp only [List.length_append] at h
 unfold wire_writer_names
 have hB : BIG = 18446744073709551616 := rfl
 refine bind_eq (wnum (k := 2) (by omega) (by omega) (len_enc _ hl) (by omega)) ?_
 refine bind_eq (wnames_loop l hl l.length BIG 0 _ b (by omega) (by omega) h1 (by simp only [List.length_append]; omega)) ?_
 simp only [List.append_assoc]
theorem wqids {w : Str} {l : List api_Qid} {t : Str} (he : encL encQ l = some t) (h : w.length + t.length ≤ 9223372036854775807) : wire_writer_qids ⟨w, 0⟩ l = some ⟨w ++ t, 0⟩ := by
 obtain ⟨hl, b, h1, rfl⟩ := encL_some he
 simp only [List.length_append] at h
 unfold wire_writer_qids
 have hB : BIG = 18446744073709551616 := rfl
 refine bind_eq (wnum (k := 2) (by omega) (by omega) (len_enc _ hl) (by omega)) ?_
 refine bind_eq (wqids_loop l hl l.length BIG 0 _ b (by omega) (by omega) h1 (by simp only [List.length_append]; omega)) ?_
 simp only [List.append_assoc]
theorem encD_some {s t : Str} {k : Nat} (h : encD s k = some t) : fitsW (s.length : Int) k = true ∧ t = leB (s.length : Int) k ++ s := by
 unfold encD at h
 split at h
 ·exact ⟨‹_›, (Option.some.inj h).symm⟩
 ·cases h
theorem wdata {w s t : Str} {k : Nat} (h1 : 1 ≤ k) (h8 : k ≤ 8) (he : encD s k = some t) (h : w.length + t.length ≤ 9223372036854775807) : wire_writer_data ⟨w, 0⟩ s (k : Int) = some ⟨w ++ t, 0⟩ := by
 obtain ⟨a, rfl⟩ := encD_some he
 simp only [List.length_append] at h
 unfold wire_writer_data
 refine bind_eq (wnum (t := leB (s.length : Int) k) h1 h8 (by unfold encN; rw [if_pos a]) (by omega)) (bind_eq (wadd _ _ 0 (by simp only [List.length_append]; omega)) ?_)
 simp only [List.append_assoc]
theorem okIn_in {n m : Int} (h : okIn n m = true) (hm : m ≤ 9223372036854775807) : InK .i64 n := by
 unfold okIn at h
 simp only [Bool.or_eq_true, Bool.and_eq_true, beq_iff_eq, decide_eq_true_eq] at h
 exact ⟨by show -9223372036854775808 ≤ n; omega, by show n ≤ 9223372036854775807; omega⟩
theorem andI_le (x : Int) (m : Nat) (hm : m < 2 ^ 63) (h0 : 0 ≤ x) (h : andI .i64 x (m : Int) = x) : x ≤ (m : Int) := by
 have hx : x ≤ 9223372036854775807 := by
  have hw : ∀ n : Int, IntKind.i64.wrap n ≤ 9223372036854775807 := by
   intro n
   simp only [IntKind.wrap, IntKind.bits, IntKind.signed]
   simp
   split <;> omega
  have hx : andI .i64 x (m : Int) ≤ 9223372036854775807 := hw _
  rw [h] at hx
  exact hx
 have := bits_in x m hm hx (by unfold okBits; simp only [Bool.or_eq_true, Bool.and_eq_true, beq_iff_eq, decide_eq_true_eq]; exact .inr ⟨h0, h⟩)
 unfold okIn at this
 simp only [Bool.or_eq_true, Bool.and_eq_true, beq_iff_eq, decide_eq_true_eq] at this
 omega
theorem okBits_in {x : Int} {m : Nat} (hm : m < 2 ^ 63) (h : okBits x (m : Int) = true) : InK .i64 x := by
 unfold okBits at h
 simp only [Bool.or_eq_true, Bool.and_eq_true, beq_iff_eq, decide_eq_true_eq] at h
 rcases h with h | ⟨h0, h⟩
 ·exact ⟨by show -9223372036854775808 ≤ x; omega, by show x ≤ 9223372036854775807; omega⟩
 ·have := andI_le x m hm h0 h
  exact ⟨by show -9223372036854775808 ≤ x; omega, by show x ≤ 9223372036854775807; omega⟩
theorem checkR_ok {d : api_Dir} (h : checkR d = 0) : d.ok := by
 obtain ⟨h1, h2⟩ := checkR_zero d h
 obtain ⟨l1, l2, l3, l4⟩ := texts_len d h2
 unfold okNums at h1
 simp only [Bool.and_eq_true] at h1
 obtain ⟨⟨⟨⟨⟨⟨⟨⟨a, b⟩, c⟩, e⟩, f⟩, g⟩, i⟩, j⟩, k⟩ := h1
 exact ⟨okIn_in a (by omega), okIn_in b (by omega), ⟨okBits_in (m := 232) (by omega) c, okIn_in e (by omega), okIn_in f (by omega)⟩, okBits_in (m := 3892314623) (by omega) g, okIn_in i (by omega), okIn_in j (by omega), okIn_in k (by omega), by omega, by omega, by omega, by omega⟩
theorem encS_some {d : api_Dir} {t : Str} (h : encS d = some t) : checkR d = 0 ∧ t = leB ((putB d).length : Int) 2 ++ putB d := by
 unfold encS at h
 split at h
 ·exact ⟨‹_›, (Option.some.inj h).symm⟩
 ·cases h
theorem wstat {w : Str} {d : api_Dir} {t : Str} (he : encS d = some t) (h : w.length + t.length ≤ 9223372036854775807) : wire_writer_stat ⟨w, 0⟩ d = some ⟨w ++ t, 0⟩ := by
 obtain ⟨a, rfl⟩ := encS_some he
 have hok := checkR_ok a
 obtain ⟨l1, l2, l3, l4⟩ := texts_len d (checkR_zero d a).2
 have hlen := putB_len d
 unfold wire_writer_stat
 refine bind_eq (put_eq d hok hok.2.2.2.2.2.2.2.1) ?_
 unfold putR
 rw [if_pos a]
 refine bind_eq (wadd w [] 0 (by simp only [List.length_append] at h; simp; omega)) (bind_eq (wdata (k := 2) (t := leB ((putB d).length : Int) 2 ++ putB d) (by omega) (by omega) ?_ ?_) ?_)
 ·unfold encD
  rw [if_pos]
  unfold fitsW
  simp only [Bool.and_eq_true, Bool.or_eq_true, decide_eq_true_eq]
  exact ⟨by omega, .inr (by omega)⟩
 ·simpa using h
 ·simp
theorem wfield (k : Lt) (m : api_Msg) (w t : Str) (he : encF k m = some t) (h : w.length + t.length ≤ 9223372036854775807) : wire_writer_field ⟨w, 0⟩ m (k.byte : Int) = some ⟨w ++ t, 0⟩ := by
 unfold wire_writer_field
 cases k with
 | m => exact bind_eq (wnum (k := 4) (by omega) (by omega) he h) rfl
 | v => exact bind_eq (wtext he h) rfl
 | s => exact bind_eq (wtext he h) rfl
 | a => exact bind_eq (wnum (k := 4) (by omega) (by omega) he h) rfl
 | u => exact bind_eq (wtext he h) rfl
 | x => exact bind_eq (wtext he h) rfl
 | q => exact bind_eq (wqid he h) rfl
 | f => exact bind_eq (wnum (k := 4) (by omega) (by omega) he h) rfl
 | e => exact bind_eq (fault_text m.Err_) (bind_eq (wtext he h) rfl)
 | o => exact bind_eq (wnum (k := 2) (by omega) (by omega) he h) rfl
 | n => exact bind_eq (wnum (k := 4) (by omega) (by omega) he h) rfl
 | w => exact bind_eq (wnames he h) rfl
 | W => exact bind_eq (wqids he h) rfl
 | M => exact bind_eq (wnum (k := 1) (by omega) (by omega) he h) rfl
 | i => exact bind_eq (wnum (k := 4) (by omega) (by omega) he h) rfl
 | N => exact bind_eq (wtext he h) rfl
 | p => exact bind_eq (wnum (k := 4) (by omega) (by omega) he h) rfl
 | O => exact bind_eq (wnum (k := 8) (by omega) (by omega) he h) rfl
 | c => exact bind_eq (wnum (k := 4) (by omega) (by omega) he h) rfl
 | d => exact bind_eq (wdata (k := 4) (by omega) (by omega) he h) rfl
 | S => exact bind_eq (wstat he h) rfl
 | l => exact bind_eq (wnum (k := 1) (by omega) (by omega) he h) rfl
 | t => exact bind_eq (wnum (k := 4) (by omega) (by omega) he h) rfl
end Go.Proofs.YtolgkhjkdadhiaaGreat
namespace Go.Proofs.YtolgkhjkdadhiaaGreat
open Go.Rt Go.RowKit
def RS (y : Str) (r : wire_reader) : Prop := r.s_ = y ∧ (r.ok_ = true → ∃ p : Nat, r.at_ = (p : Int) ∧ p ≤ y.length)
def St (y : Str) (r r' : wire_reader) (t : Option Str) : Prop := r'.s_ = y ∧ (r'.ok_ = true → r.ok_ = true ∧ ∃ p p' : Nat, r.at_ = (p : Int) ∧ r'.at_ = (p' : Int) ∧ p ≤ p' ∧ p' ≤ y.length ∧ t = some (win y p (p' - p)))
def app2 (a b : Option Str) : Option Str := match a, b with
 | some a, some b => some (a ++ b)
 | _, _ => none
theorem St.rs {y : Str} {r r' : wire_reader} {t : Option Str} (h : St y r r' t) : RS y r' :=
 ⟨h.1, fun ho => let ⟨_, _, p', _, h2, _, h4, _⟩ := h.2 ho; ⟨p', h2, h4⟩⟩
theorem St.zero {y : Str} {r : wire_reader} (h : RS y r) : St y r r (some []) :=
 ⟨h.1, fun ho => let ⟨p, h1, h2⟩ := h.2 ho; ⟨ho, p, p, h1, h1, Nat.le_refl _, h2, by simp [win]⟩⟩
theorem St.comp {y : Str} {r r1 r2 : wire_reader} {t u : Option Str} (h : St y r r1 t) (h' : St y r1 r2 u) : St y r r2 (app2 t u) := by
 refine ⟨h'.1, fun ho => ?_⟩
 obtain ⟨o1, p1, p2, a1, a2, a3, a4, rfl⟩ := h'.2 ho
 obtain ⟨o0, p0, p1', b1, b2, b3, b4, rfl⟩ := h.2 o1
 have : p1' = p1 := by omega
 subst this
 exact ⟨o0, p0, p2, b1, a2, by omega, a4, congrArg some (win_join y p0 (p1' - p0) (p2 - p1') p1' (p2 - p0) (by omega) (by omega))⟩
theorem Rd.st {α : Type} {y : Str} {a : Nat} {enc : α → Option Str} {x : α} {r : wire_reader} (h : Rd y a enc x r) : St y ⟨y, (a : Int), true⟩ r (enc x) := by
 refine ⟨h.1, fun ho => ?_⟩
 rcases h.2 with ⟨_, p, h2, h3, h4, h5⟩ | h2
 ·exact ⟨rfl, a, p, rfl, h2, h3, h4, h5⟩
 ·rw [h2] at ho; cases ho
theorem reader_eq2 {y : Str} {r : wire_reader} (h : RS y r) (ho : r.ok_ = true) : ∃ p : Nat, r = ⟨y, (p : Int), true⟩ ∧ p ≤ y.length := by
 obtain ⟨p, h1, h2⟩ := h.2 ho
 exact ⟨p, reader_eq h.1 h1 ho, h2⟩
theorem nstep {y : Str} {r : wire_reader} (w : Nat) (h1 : 1 ≤ w) (h8 : w ≤ 8) (h : RS y r) (hs : y.length ≤ 1000000) : ∃ n r', wire_reader_number r (w : Int) = some (n, r') ∧ St y r r' (encN n w) := by
 cases ho : r.ok_ with
 | true =>
  obtain ⟨p, rfl, hp⟩ := reader_eq2 h ho
  obtain ⟨n, r', e1, e2⟩ := rnumR y p w h1 h8 hp hs
  exact ⟨n, r', e1, e2.st⟩
 | false =>
  obtain ⟨n, e1⟩ := xnum_no r ho (w : Int)
  exact ⟨n, r, e1, h.1, fun h' => by rw [ho] at h'; cases h'⟩
theorem fstep {y : Str} {r : wire_reader} (k : Lt) (m : api_Msg) (h : RS y r) (hs : y.length ≤ 1000000) : ∃ m' r', wire_reader_field r m (k.byte : Int) = some (r', cpF k m' m) ∧ St y r r' (encF k m') := by
 cases ho : r.ok_ with
 | true =>
  obtain ⟨p, rfl, hp⟩ := reader_eq2 h ho
  obtain ⟨m', r', e1, e2⟩ := rfield k y p m hp hs
  exact ⟨m', r', e1, e2.st⟩
 | false =>
  obtain ⟨m', e1⟩ := rfield_no k r ho m
  exact ⟨m', r, e1, h.1, fun h' => by rw [ho] at h'; cases h'⟩
theorem encs_all {α : Type} {f : α → Option Str} : ∀ {l : List α} {t : Str}, encs f l = some t → ∀ x ∈ l, ∃ a, f x = some a
 | [], _, _, x, hx => by cases hx
 | y :: l, t, h, x, hx => by
  obtain ⟨a, b, h1, h2, _⟩ := encs_cons h
  cases hx with
  | head => exact ⟨a, h1⟩
  | tail _ hx => exact encs_all h2 x hx
theorem small_cp {k : Lt} {m' m : api_Msg} {t : Str} (h : m.small) (he : encF k m' = some t) : (cpF k m' m).small := by
 obtain ⟨h1, h2, h3, h4, h5⟩ := h
 cases k with
 | w =>
  obtain ⟨l1, b, l2, _⟩ := encL_some (f := encT) he
  exact ⟨by show m'.Names_.length ≤ _; omega, fun s hs => by obtain ⟨a, ha⟩ := encs_all l2 s hs; have := (encT_some ha).1; omega, h3, h4, h5⟩
 | W =>
  obtain ⟨l1, b, l2, _⟩ := encL_some (f := encQ) he
  exact ⟨h1, h2, by show m'.Qids_.length ≤ _; omega, h4, h5⟩
 | N => exact ⟨h1, h2, h3, by have := (encT_some (s := m'.Name_) he).1; show m'.Name_.length ≤ _; omega, h5⟩
 | S => exact ⟨h1, h2, h3, h4, checkR_ok (encS_some (d := m'.Stat_) he).1⟩
 | _ => exact ⟨h1, h2, h3, h4, h5⟩
def encA (l : List Lt) (m : api_Msg) : Option Str := encs (fun k => encF k m) l
theorem encA_cons (k : Lt) (l : List Lt) (m : api_Msg) : encA (k :: l) m = app2 (encF k m) (encA l m) := by
 unfold encA app2
 rw [encs] <;> rfl
theorem layB_len (l : List Lt) : (layB l).length = l.length := by simp [layB]
theorem layB_byte (l : List Lt) (i : Nat) (h : i < l.length) : byteI (layB l) (i : Int) = some (l[i].byte : Int) := by
 rw [byteI_lt (by rw [layB_len]; exact h)]
 simp [layB, Lt.b8_nat]
theorem gloop (y : Str) (hs : y.length ≤ 1000000) (L : List Lt) (hL : L.length ≤ 100) : ∀ (l : List Lt) (fuel i : Nat) (r : wire_reader) (m : api_Msg), L.drop i = l → i + l.length = L.length → l.Nodup → l.length < fuel → RS y r →
  ∃ mf r', loopF (wire_Get_L1 (layB L)) fuel ((i : Int), r, m) = some (r', mf) ∧ St y r r' (encA l mf) ∧ mf.Kind_ = m.Kind_ ∧ mf.Tag_ = m.Tag_ ∧ (∀ k, k ∉ l → encF k mf = encF k m) ∧ (r'.ok_ = true → m.small → mf.small)
 | [], 0, i, r, m, hd, hi, _, hf, h => absurd hf (Nat.not_lt_zero _)
 | _ :: _, 0, i, r, m, hd, hi, _, hf, h => absurd hf (Nat.not_lt_zero _)
 | [], fuel + 1, i, r, m, hd, hi, _, _, h => by
  have hb : wire_Get_L1 (layB L) ((i : Int), r, m) = some (.done (r, m)) := by
   unfold wire_Get_L1
   simp only [List.length_nil] at hi
   exact cond_f (by rw [layB_len]; simp; omega) rfl
  have hz : St y r r (encA [] m) := St.zero h
  exact ⟨m, r, loop_done hb, hz, rfl, rfl, fun _ _ => rfl, fun _ h => h⟩
 | k :: l, fuel + 1, i, r, m, hd, hi, hn, hf, h => by
  simp only [List.length_cons] at hi hf
  have hlt : i < L.length := by omega
  rw [List.drop_eq_getElem_cons hlt] at hd
  simp only [List.cons.injEq] at hd
  obtain ⟨hk, hd⟩ := hd
  obtain ⟨hn1, hn2⟩ := List.nodup_cons.1 hn
  obtain ⟨m', r1, e1, s1⟩ := fstep k m h hs
  obtain ⟨mf, r', e2, s2, k1, k2, k3, k4⟩ := gloop y hs L hL l fuel (i + 1) r1 (cpF k m' m) hd (by omega) hn2 (by omega) s1.rs
  have ek : encF k mf = encF k m' := by rw [k3 k hn1, encF_cp]
  refine ⟨mf, r', loop_next ?_ e2, ?_, ?_, ?_, fun k' h' => ?_, fun ho hm => ?_⟩
  ·unfold wire_Get_L1
   refine cond_t (by rw [layB_len]; simp; omega) (bind_eq (layB_byte L i hlt) ?_)
   rw [hk]
   refine bind_eq e1 ?_
   rw [w64_eq (n := (i : Int) + 1) ⟨by omega, by omega⟩]; rfl
  ·rw [encA_cons, ek]; exact s1.comp s2
  ·rw [k1, (cp_kind k m' m).1]
  ·rw [k2, (cp_kind k m' m).2]
  ·simp only [List.mem_cons, not_or] at h'
   rw [k3 k' h'.2, encF_other k' k h'.1]
  ·obtain ⟨o1, _⟩ := s2.2 ho
   obtain ⟨_, p, p', _, _, _, _, ht⟩ := s1.2 o1
   exact k4 ho (small_cp hm ht)
def Good (m : api_Msg) (y : Str) : Prop := m.small ∧ msg_Check m = some 0 ∧ leV (win y 0 4) = y.length ∧ 7 ≤ y.length ∧ y.length ≤ 8192 ∧ ∃ l, wire_layout m.Kind_ = some (layB l) ∧ l.length ≤ 100 ∧ app2 (encN m.Kind_ 1) (app2 (encN m.Tag_ 2) (encA l m)) = some (win y 4 (y.length - 4))
theorem zero_small (k t : Int) : (zeroM k t).small := ⟨by simp [zeroM], by simp [zeroM], by simp [zeroM], by simp [zeroM], checkR_ok (d := zeroDir) (by kernel_rfl)⟩
theorem get_none (s : Str) (a : Int) (h : a < 0 ∨ a > s.length) : octet_Get s a 4 = some (0, 0, 1) := by
 unfold octet_Get
 refine cond_t ?_ rfl
 simp only [Bool.or_eq_true, decide_eq_true_eq]
 omega
theorem get_fwd (s : Str) (a : Int) (hs : s.length ≤ 1000000) : ∃ m n e, wire_Get s a = some (m, n, e) ∧ ((e ≠ 0 ∧ n = 0) ∨ (e = 0 ∧ ∃ A z : Nat, a = (A : Int) ∧ n = ((A + z : Nat) : Int) ∧ A + z ≤ s.length ∧ z = (win s A z).length ∧ Good m (win s A z))) := by
 unfold wire_Get
 by_cases ha : a < 0 ∨ a > s.length
 ·exact ⟨_, _, _, bind_eq (get_none s a ha) rfl, .inl ⟨by decide, rfl⟩⟩
 obtain ⟨A, rfl⟩ : ∃ A : Nat, a = (A : Int) := ⟨a.toNat, by omega⟩
 have hA : A ≤ s.length := by omega
 have e0 := get_eq s A 4 (by omega) (by omega) hA (by omega)
 rw [show ((4 : Nat) : Int) = 4 from rfl] at e0
 by_cases c1 : s.length - A < 4
 ·rw [if_pos c1] at e0
  exact ⟨_, _, _, bind_eq e0 rfl, .inl ⟨by decide, rfl⟩⟩
 rw [if_neg c1] at e0
 by_cases c2 : leV (win s A 4) > 9223372036854775807
 ·rw [if_pos c2] at e0
  exact ⟨_, _, _, bind_eq e0 rfl, .inl ⟨by decide, rfl⟩⟩
 rw [if_neg c2] at e0
 generalize hz : leV (win s A 4) = z at e0 c2
 by_cases c3 : z > 8192
 ·exact ⟨_, _, _, bind_eq e0 (cond_f rfl (cond_t (by simp; omega) rfl)), .inl ⟨by decide, rfl⟩⟩
 by_cases c4 : z < 7
 ·exact ⟨_, _, _, bind_eq e0 (cond_f rfl (cond_f (by simp; omega) (cond_t (by simp; omega) rfl))), .inl ⟨by decide, rfl⟩⟩
 have el : w64 ((s.length : Int) - (A : Int)) = ((s.length - A : Nat) : Int) := by rw [w64_eq ⟨by omega, by omega⟩]; omega
 by_cases c5 : z > s.length - A
 ·exact ⟨_, _, _, bind_eq e0 (cond_f rfl (cond_f (by simp; omega) (cond_f (by simp; omega) (cond_t (by rw [el]; simp; omega) rfl)))), .inl ⟨by decide, rfl⟩⟩
 have e1 := win_sub s A z (by omega) (by omega)
 have hy : (win s A z).length = z := win_len (by omega)
 generalize hy' : win s A z = y at e1 hy
 have r0 : RS y ⟨y, ((4 : Nat) : Int), true⟩ := ⟨rfl, fun _ => ⟨4, rfl, by omega⟩⟩
 obtain ⟨kd, r1, e2, s1⟩ := nstep 1 (by omega) (by omega) r0 (by omega)
 obtain ⟨tg, r2, e3, s2⟩ := nstep 2 (by omega) (by omega) s1.rs (by omega)
 obtain ⟨L, e4, hn, hL⟩ := lay_any kd
 have hB : BIG = 18446744073709551616 := rfl
 obtain ⟨mf, r3, e5, s3, k1, k2, _, k4⟩ := gloop y (by omega) L hL L BIG 0 r2 (zeroM kd tg) rfl (by omega) hn (by omega) s2.rs
 obtain ⟨nm, e6⟩ := Option.get_some (name_some mf.Kind_)
 have h3 : decide ((z : Int) > 8192) = false := by simp; omega
 have h4 : decide ((z : Int) < 7) = false := by simp; omega
 have h5 : decide ((z : Int) > w64 ((s.length : Int) - (A : Int))) = false := by rw [el]; simp; omega
 cases c6 : (((nm == []) || (!r3.ok_)) || (r3.at_ != (z : Int))) with
 | true => exact ⟨_, _, _, bind_eq e0 (cond_f rfl (cond_f h3 (cond_f h4 (cond_f h5 (bind_eq e1 (bind_eq e2 (bind_eq e3 (bind_eq e4 (bind_eq e5 (bind_eq e6 (cond_t c6 rfl))))))))))), .inl ⟨by decide, rfl⟩⟩
 | false =>
  have c6' := c6
  simp only [Bool.or_eq_false_iff, Bool.not_eq_false', bne_eq_false_iff_eq] at c6
  obtain ⟨⟨_, ho⟩, hz2⟩ := c6
  have hsm := k4 ho (zero_small kd tg)
  obtain ⟨c, e7⟩ := check_some mf hsm
  by_cases hc : c = 0
  ·subst hc
   have hyz : y = win s A z := hy'.symm
   clear hy'
   subst hyz
   refine ⟨_, _, _, bind_eq e0 (cond_f rfl (cond_f h3 (cond_f h4 (cond_f h5 (bind_eq e1 (bind_eq e2 (bind_eq e3 (bind_eq e4 (bind_eq e5 (bind_eq e6 (cond_f c6' (bind_eq e7 (cond_f rfl rfl))))))))))))), .inr ⟨rfl, A, z, rfl, ?_, by omega, by omega, hsm, e7, ?_, by omega, by omega, L, ?_, hL, ?_⟩⟩
   ·rw [w64_eq ⟨by omega, by omega⟩]; omega
   ·have hw : win (win s A z) 0 4 = win s A 4 := by
     simp only [win, List.drop_zero, List.take_take]
     congr 1
     omega
    rw [hw, hz, hy]
   ·rw [k1]; exact e4
   ·have hst := s1.comp (s2.comp s3)
    obtain ⟨_, p, p', q1, q2, q3, q4, q5⟩ := hst.2 ho
    have hp : p = 4 := by have : ((4 : Nat) : Int) = (p : Int) := q1; omega
    have hp' : p' = (win s A z).length := by omega
    rw [k1, k2]
    subst hp hp'
    exact q5
  ·have hc' : (c != 0) = true := by simpa using hc
   exact ⟨_, _, _, bind_eq e0 (cond_f rfl (cond_f h3 (cond_f h4 (cond_f h5 (bind_eq e1 (bind_eq e2 (bind_eq e3 (bind_eq e4 (bind_eq e5 (bind_eq e6 (cond_f c6' (bind_eq e7 (cond_t hc' rfl))))))))))))), .inl ⟨hc, rfl⟩⟩
end Go.Proofs.YtolgkhjkdadhiaaGreat
namespace Go.Proofs.YtolgkhjkdadhiaaGreat
open Go.Rt Go.RowKit
theorem app2_some {a b : Option Str} {t : Str} (h : app2 a b = some t) : ∃ x y, a = some x ∧ b = some y ∧ t = x ++ y := by
 cases a with
 | none => cases h
 | some x =>
  cases b with
  | none => cases h
  | some y => exact ⟨x, y, rfl, rfl, (Option.some.inj h).symm⟩
theorem wput_loop (m : api_Msg) (L : List Lt) (hL : L.length ≤ 100) : ∀ (k fuel i : Nat) (w t : Str), i + k = L.length → k < fuel → encA (L.drop i) m = some t → w.length + t.length ≤ 9223372036854775807 → loopF (wire_Put_L1 (layB L) m) fuel ((i : Int), ⟨w, 0⟩) = some ⟨w ++ t, 0⟩
 | 0, fuel + 1, i, w, t, hi, _, he, _ => by
  rw [show L.drop i = [] from List.drop_eq_nil_of_le (by omega)] at he
  cases he
  refine loop_done ?_
  unfold wire_Put_L1
  exact cond_f (by rw [layB_len]; simp; omega) (by simp)
 | k + 1, fuel + 1, i, w, t, hi, hk, he, h => by
  have hlt : i < L.length := by omega
  rw [List.drop_eq_getElem_cons hlt, encA_cons] at he
  obtain ⟨a, b, h1, h2, rfl⟩ := app2_some he
  simp only [List.length_append] at h
  have ih := wput_loop m L hL k fuel (i + 1) (w ++ a) b (by omega) (by omega) h2 (by simp only [List.length_append]; omega)
  rw [List.append_assoc] at ih
  refine loop_next ?_ ih
  unfold wire_Put_L1
  refine cond_t (by rw [layB_len]; simp; omega) (bind_eq (layB_byte L i hlt) (bind_eq (wfield _ m w a h1 (by omega)) ?_))
  rw [w64_eq (n := (i : Int) + 1) ⟨by omega, by omega⟩]; rfl
theorem fits4 (n : Nat) (h : n ≤ 4294967295) : fitsW (n : Int) 4 = true := by
 unfold fitsW
 simp only [Bool.and_eq_true, Bool.or_eq_true, decide_eq_true_eq]
 exact ⟨by omega, .inr (by omega)⟩
theorem put_fwd (m : api_Msg) (L : List Lt) (t : Str) (hc : msg_Check m = some 0) (hl : wire_layout m.Kind_ = some (layB L)) (hL : L.length ≤ 100) (he : app2 (encN m.Kind_ 1) (app2 (encN m.Tag_ 2) (encA L m)) = some t) (ht : t.length ≤ 1152921504606846976) :
  wire_Put m = some (if t.length + 4 ≤ 8192 then (leB ((t.length + 4 : Nat) : Int) 4 ++ t, 0) else ([], 4)) := by
 obtain ⟨t1, u, h1, hu, rfl⟩ := app2_some he
 obtain ⟨t2, t3, h2, h3, rfl⟩ := app2_some hu
 have hB : BIG = 18446744073709551616 := rfl
 simp only [List.length_append] at ht
 have e3 := wnum (w := []) (k := 1) (by omega) (by omega) h1 (by simp; omega)
 have e4 := wnum (w := [] ++ t1) (k := 2) (by omega) (by omega) h2 (by simp; omega)
 have e5 := wput_loop m L hL L.length BIG 0 ([] ++ t1 ++ t2) t3 (by omega) (by omega) h3 (by simp; omega)
 simp only [List.nil_append, List.append_assoc] at e3 e4 e5
 unfold wire_Put
 generalize hT : t1 ++ (t2 ++ t3) = T at e5 ⊢
 have hTl : T.length ≤ 1152921504606846976 := by rw [← hT]; simp only [List.length_append]; omega
 refine bind_eq hc (cond_f rfl (bind_eq e3 (bind_eq e4 (bind_eq hl (bind_eq e5 (cond_f rfl ?_))))))
 have el : w64 ((T.length : Int) + 4) = ((T.length + 4 : Nat) : Int) := by rw [w64_eq ⟨by omega, by omega⟩]; omega
 simp only [el]
 by_cases c : T.length + 4 ≤ 8192
 ·rw [if_pos c]
  have e6 := octet_put_all ((T.length + 4 : Nat) : Int) 4 (by omega) (by omega)
  rw [if_pos (fits4 _ (by omega))] at e6
  exact cond_f (by simp; omega) (bind_eq e6 (bind_eq (cat_eq (by rw [leB_len]; omega)) rfl))
 ·rw [if_neg c]
  exact cond_t (by simp; omega) rfl
end Go.Proofs.YtolgkhjkdadhiaaGreat
namespace Go.Proofs.YtolgkhjkdadhiaaGreat
open Go.Rt Go.RowKit
theorem msg_same (m : api_Msg) (h1 : m.Names_.length ≤ 9223372036854775807) (h2 : m.Qids_.length ≤ 9223372036854775807) : ref08_Same m m = some true := by
 have hB : BIG = 18446744073709551616 := rfl
 unfold ref08_Same
 refine cond_f (by simp) (bind_eq (loop_all3 m.Names_ (fun _ => none) (by omega) (fun i hi => ?_) ?_) ?_)
 ·unfold ref08_Same_L1
  refine cond_t (by simp; omega) (bind_eq (getI_lt hi) (bind_eq (getI_lt hi) (cond_f (by simp) ?_)))
  rw [w64_eq (n := (i : Int) + 1) ⟨by omega, by omega⟩]; rfl
 ·unfold ref08_Same_L1
  exact cond_f (by simp) rfl
 ·have e : ∀ {α : Type} (l : List α), l.findSome? (fun _ => (none : Option Bool)) = none := by intro α l; simp
  rw [e]
  refine bind_eq (loop_all3 m.Qids_ (fun _ => none) (by omega) (fun i hi => ?_) ?_) ?_
  ·unfold ref08_Same_L2
   refine cond_t (by simp; omega) (bind_eq (getI_lt hi) (bind_eq (getI_lt hi) (cond_f (by simp) ?_)))
   rw [w64_eq (n := (i : Int) + 1) ⟨by omega, by omega⟩]; rfl
  ·unfold ref08_Same_L2
   exact cond_f (by simp) rfl
  ·rw [e]; simp
inductive Res where
 | stop
 | bad (e : Int)
 | got (m : api_Msg) (z : Nat)
noncomputable def one (o : Int) (x : Str) : Res :=
 if x.length < 4 then .stop
 else if (leV (win x 0 4) : Int) > o ∨ leV (win x 0 4) < 7 then .bad 19
 else if x.length < leV (win x 0 4) then .stop
 else match wire_Get x 0 with
  | some (m, _, e) => if e = 0 then .got m (leV (win x 0 4)) else .bad e
  | none => .stop
theorem four_lt (x : Str) : leV (win x 0 4) < 4294967296 := by
 have h1 := leV_lt (win x 0 4)
 have h2 : (win x 0 4).length ≤ 4 := by simp [win]; omega
 have h3 : 2 ^ (8 * (win x 0 4).length) ≤ 2 ^ 32 := Nat.pow_le_pow_right (by omega) (by omega)
 omega
theorem oct0 (x : Str) (h : 4 ≤ x.length) (hs : x.length ≤ 1000000) : octet_Get x 0 4 = some ((leV (win x 0 4) : Int), 4, 0) := by
 have e := get_eq x 0 4 (by omega) (by omega) (by omega) (by omega)
 have := four_lt x
 rw [if_neg (by omega), if_neg (by omega)] at e
 exact e
theorem one_got {o : Int} {x : Str} {m : api_Msg} {z : Nat} (hs : x.length ≤ 1000000) (h : one o x = .got m z) : 7 ≤ z ∧ z ≤ x.length ∧ m.small ∧ wire_Get x 0 = some (m, (z : Int), 0) ∧ z = leV (win x 0 4) ∧ 4 ≤ x.length ∧ (z : Int) ≤ o := by
 unfold one at h
 split at h
 ·cases h
 ·split at h
  ·cases h
  ·split at h
   ·cases h
   ·obtain ⟨m', n, e, h1, h2⟩ := get_fwd x 0 hs
    rw [h1] at h
    simp only at h
    by_cases he : e = 0
    ·rw [if_pos he] at h
     cases h
     rcases h2 with ⟨h2, _⟩ | ⟨_, A, z', hA, hn, hl, hw, hg⟩
     ·exact absurd he h2
     ·have : A = 0 := by omega
      subst this
      have hz : z' = leV (win x 0 4) := by
       have := hg.2.2.1
       rw [← hw] at this
       rw [← this]
       congr 1
       simp only [win, List.drop_zero, List.take_take]
       congr 1
       have := hg.2.2.2.1
       omega
      refine ⟨by omega, by omega, hg.1, ?_, rfl, by omega, by omega⟩
      rw [h1, he, hn, hz]
      simp
    ·rw [if_neg he] at h; cases h
inductive Spl (o : Int) : Str → List api_Msg → Str → Prop
 | stop {x : Str} : one o x = .stop → Spl o x [] x
 | got {x : Str} {m : api_Msg} {z : Nat} {ms : List api_Msg} {r : Str} : one o x = .got m z → Spl o (x.drop z) ms r → Spl o x (m :: ms) r
theorem Spl.len {o : Int} {x : Str} {ms : List api_Msg} {r : Str} (h : Spl o x ms r) : x.length ≤ 1000000 → 7 * ms.length + r.length ≤ x.length ∧ ∀ m ∈ ms, m.small := by
 induction h with
 | stop _ => exact fun _ => ⟨by simp, fun m hm => by cases hm⟩
 | got h1 _ ih =>
  intro hs
  obtain ⟨a, b, c, _⟩ := one_got hs h1
  obtain ⟨i1, i2⟩ := ih (by simp; omega)
  simp only [List.length_drop, List.length_cons] at i1 ⊢
  refine ⟨by omega, fun m hm => ?_⟩
  cases hm with
  | head => exact c
  | tail _ hm => exact i2 m hm
theorem split_body (o : Int) (x : Str) (acc : List api_Msg) (hs : x.length ≤ 1000000) (ha : acc.length ≤ 1000000) : wire_Split_L1 o (x, acc) = match one o x with
  | .stop => some (.done (.fall (x, acc)))
  | .bad e => some (.done (.ret ([], [], e)))
  | .got m z => some (.next (x.drop z, acc ++ [m])) := by
 unfold wire_Split_L1 one
 by_cases h4 : x.length < 4
 ·rw [if_pos h4]; exact cond_f (by simp; omega) rfl
 rw [if_neg h4]
 refine cond_t (by simp; omega) (bind_eq (oct0 x (by omega) hs) ?_)
 by_cases h7 : (leV (win x 0 4) : Int) > o ∨ leV (win x 0 4) < 7
 ·rw [if_pos h7]
  exact cond_t (by simp only [Bool.or_eq_true, decide_eq_true_eq, bne_iff_ne]; omega) rfl
 rw [if_neg h7]
 refine cond_f (by simp; omega) ?_
 by_cases hz : x.length < leV (win x 0 4)
 ·rw [if_pos hz]; exact cond_t (by simp; omega) rfl
 rw [if_neg hz]
 refine cond_f (by simp; omega) ?_
 obtain ⟨m, n, e, h1, h2⟩ := get_fwd x 0 hs
 refine bind_eq h1 ?_
 rw [h1]
 by_cases he : e = 0
 ·simp only [if_pos he]
  refine cond_f (by simpa using he) ?_
  rcases h2 with ⟨h2, _⟩ | ⟨_, A, z', hA, hn, hl, hw, hg⟩
  ·exact absurd he h2
  ·have : A = 0 := by omega
   subst this
   have hz' : z' = leV (win x 0 4) := by
    have := hg.2.2.1
    rw [← hw] at this
    rw [← this]
    congr 1
    simp only [win, List.drop_zero, List.take_take]
    congr 1
    have := hg.2.2.2.1
    omega
   rw [hn]
   refine bind_eq (subI_eq (by omega) (by omega) (by omega)) (bind_eq (room_eq (by simp; omega) (by simp; omega)) ?_)
   simp [hz']
 ·simp only [if_neg he]
  exact cond_t (by simpa using he) rfl
theorem split_run {o : Int} {x : Str} {ms : List api_Msg} {r : Str} (h : Spl o x ms r) : ∀ (fuel : Nat) (acc : List api_Msg), x.length < fuel → acc.length + x.length ≤ 1000000 → loopF (wire_Split_L1 o) fuel (x, acc) = some (.fall (r, acc ++ ms)) := by
 induction h with
 | stop h1 =>
  rename_i x
  intro fuel acc hf ha
  cases fuel with
  | zero => omega
  | succ fuel =>
   refine loop_done ?_
   rw [split_body o x acc (by omega) (by omega), h1]
   simp
 | got h1 h2 ih =>
  rename_i x m z ms r
  intro fuel acc hf ha
  obtain ⟨a, b, _⟩ := one_got (by omega) h1
  cases fuel with
  | zero => omega
  | succ fuel =>
   have := ih fuel (acc ++ [m]) (by simp; omega) (by simp; omega)
   rw [List.append_assoc] at this
   refine loop_next ?_ this
   rw [split_body o x acc (by omega) (by omega), h1]
theorem split_any (o : Int) : ∀ (k : Nat) (x : Str), x.length < k → x.length ≤ 1000000 → (∃ ms r, Spl o x ms r) ∨ ∀ (fuel : Nat) (acc : List api_Msg), x.length < fuel → acc.length + x.length ≤ 1000000 → ∃ e, loopF (wire_Split_L1 o) fuel (x, acc) = some (.ret ([], [], e)) ∧ e ≠ 0
 | 0, x, h, _ => by omega
 | k + 1, x, h, hs => by
  cases h1 : one o x with
  | stop => exact .inl ⟨_, _, .stop h1⟩
  | bad e =>
   refine .inr fun fuel acc hf ha => ?_
   cases fuel with
   | zero => omega
   | succ fuel =>
    refine ⟨e, loop_done ?_, ?_⟩
    ·rw [split_body o x acc (by omega) (by omega), h1]
    ·unfold one at h1
     split at h1
     ·cases h1
     ·split at h1
      ·cases h1; decide
      ·split at h1
       ·cases h1
       ·split at h1
        ·split at h1
         ·cases h1
         ·cases h1; assumption
        ·cases h1
  | got m z =>
   obtain ⟨a, b, _⟩ := one_got hs h1
   rcases split_any o k (x.drop z) (by simp; omega) (by simp; omega) with ⟨ms, r, h2⟩ | h2
   ·exact .inl ⟨_, _, .got h1 h2⟩
   ·refine .inr fun fuel acc hf ha => ?_
    cases fuel with
    | zero => omega
    | succ fuel =>
     obtain ⟨e, e1, e2⟩ := h2 fuel (acc ++ [m]) (by simp; omega) (by simp; omega)
     refine ⟨e, loop_next ?_ e1, e2⟩
     rw [split_body o x acc (by omega) (by omega), h1]
def limR (n : Int) : Int := if n = 0 ∨ n > 8192 then 8192 else n
theorem split_spl {x : Str} {n : Int} {ms : List api_Msg} {r : Str} (hs : x.length ≤ 1000000) (h : Spl (limR n) x ms r) : wire_Split x n = some (ms, r, 0) := by
 unfold wire_Split
 have hB : BIG = 18446744073709551616 := rfl
 refine bind_eq (a := limR n) ?_ (bind_eq (split_run h BIG [] (by omega) (by simp; omega)) rfl)
 unfold limR
 by_cases hn : n = 0 ∨ n > 8192
 ·rw [if_pos hn]; exact cond_t (by simpa using hn) rfl
 ·rw [if_neg hn]; exact cond_f (by simp only [not_or] at hn; simp; omega) rfl
theorem split_all (x : Str) (n : Int) (hs : x.length ≤ 1000000) : (∃ ms r, Spl (limR n) x ms r) ∨ ∃ e, wire_Split x n = some ([], [], e) ∧ e ≠ 0 := by
 have hB : BIG = 18446744073709551616 := rfl
 rcases split_any (limR n) (x.length + 1) x (by omega) hs with h | h
 ·exact .inl h
 ·obtain ⟨e, e1, e2⟩ := h BIG [] (by omega) (by simp; omega)
  refine .inr ⟨e, ?_, e2⟩
  unfold wire_Split
  refine bind_eq (a := limR n) ?_ (bind_eq e1 rfl)
  unfold limR
  by_cases hn : n = 0 ∨ n > 8192
  ·rw [if_pos hn]; exact cond_t (by simpa using hn) rfl
  ·rw [if_neg hn]; exact cond_f (by simp only [not_or] at hn; simp; omega) rfl
end Go.Proofs.YtolgkhjkdadhiaaGreat
namespace Go.Proofs.YtolgkhjkdadhiaaGreat
open Go.Rt Go.RowKit
theorem encN_of {n : Int} {w : Nat} (h : fitsW n w = true) : encN n w = some (leB n w) := by unfold encN; rw [if_pos h]
def qle (q : api_Qid) : Prop := q.Path_ ≤ 9223372036854775807 ∧ q.Type_ ≤ 9223372036854775807 ∧ q.Vers_ ≤ 9223372036854775807
def fine (k : Lt) (m : api_Msg) : Prop := match k with
 | .m => m.Msize_ ≤ 9223372036854775807 | .a => m.AuthFid_ ≤ 9223372036854775807 | .q => qle m.Qid_ | .f => m.Fid_ ≤ 9223372036854775807
 | .e => 1 ≤ m.Err_ ∧ m.Err_ ≤ 59 | .o => m.OldTag_ ≤ 9223372036854775807 | .n => m.NewFid_ ≤ 9223372036854775807
 | .W => ∀ q ∈ m.Qids_, qle q | .M => m.Mode_ ≤ 9223372036854775807 | .i => m.Iounit_ ≤ 9223372036854775807
 | .p => m.Perm_ ≤ 9223372036854775807 | .O => m.Offset_ ≤ 9223372036854775807 | .c => m.Count_ ≤ 9223372036854775807
 | .l => m.Lease_ ≤ 9223372036854775807 | .t => m.Term_ ≤ 9223372036854775807 | _ => True
end Go.Proofs.YtolgkhjkdadhiaaGreat
