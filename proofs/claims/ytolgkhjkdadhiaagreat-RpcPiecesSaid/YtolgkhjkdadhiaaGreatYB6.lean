/-
 What the statements of this seat hang on, part 6: K1 K2 Num Qa Qb Qc Qd Qe Qf Qg Qh Qi Qj.
-/
import Derived.Test.YtolgkhjkdadhiaaGreatYB5
import Derived.Laws.BitsLemmas
import Derived.KernelRfl
namespace Go.Proofs.YtolgkhjkdadhiaaGreat
open Go.Rt Go.RowKit
noncomputable section
def c_17 : Con te := ak_ te [.d (.st 2)] [(.bool, [])] false fun a => dQ_ a.1
theorem ok_17 : OKF 17 c_17 := ⟨af_ ai_ ag_ Tryz.func17 (by kernel_rfl) (pl := .s .p (.s .p (.s (.s .p (.lp ⟨[(54, .d (.int .i64))], [], [1, 53], [0], [], 35018⟩ ⟨[], [], [1], [0], [], 35018⟩ true .p)) .p))) fun _ => by kernel_rfl, by kernel_rfl⟩
def c_10 : Con te := ak_ te [.d (.st 4)] [(.bool, [])] false fun a => fl_ a.1
theorem ok_10 : OKF 10 c_10 := ⟨af_ ai_ (ae_ ok_17 ag_) Tryz.func10 (by kernel_rfl) (pl := .s .p (.s .p (.s (.s .p (.lp ⟨[(29, .d (.int .i64))], [], [1, 28], [0], [], 15014⟩ ⟨[], [], [], [], [], 15014⟩ true .p)) .p))) fun _ => by kernel_rfl, by kernel_rfl⟩
def c_15 : Con te := ak_ te [] [(.st 4, [])] true fun _ => rpc_New
theorem ok_15 : OKF 15 c_15 := ⟨af_ ai_ ag_ Tryz.func15 (by kernel_rfl) (pl := .p) fun _ => by kernel_rfl, by kernel_rfl⟩
def c_74 : Con te := ak_ te [.d (.sl .str)] [(.sl .str, [some 9])] false fun a => dH_ a.1
theorem ok_74 : OKF 74 c_74 := ⟨af_ ai_ ag_ Tryz.func74 (by kernel_rfl) (pl := .p) fun _ => by kernel_rfl, by kernel_rfl⟩
def c_75 : Con te := ak_ te [.d (.sl (.st 0))] [(.sl (.st 0), [some 33])] false fun a => dI_ a.1
theorem ok_75 : OKF 75 c_75 := ⟨af_ ai_ ag_ Tryz.func75 (by kernel_rfl) (pl := .p) fun _ => by kernel_rfl, by kernel_rfl⟩
def c_42 : Con te := ak_ te [.d (.st 2)] [(.st 2, [])] true fun a => iH_ a.1
theorem ok_42 : OKF 42 c_42 := ⟨af_ ai_ (ae_ ok_75 (ae_ ok_74 ag_)) Tryz.func42 (by kernel_rfl) (pl := .p) fun _ => by kernel_rfl, by kernel_rfl⟩
def c_70 : Con te := ak_ te [.d (.sl (.int .i64))] [(.sl (.int .i64), [some 3])] false fun a => fy_ a.1
theorem ok_70 : OKF 70 c_70 := ⟨af_ ai_ ag_ Tryz.func70 (by kernel_rfl) (pl := .p) fun _ => by kernel_rfl, by kernel_rfl⟩
def c_39 : Con te := ak_ te [.d (.st 4)] [(.st 4, [none, none, none, some 3, some 63])] true fun a => h3_ a.1
theorem ok_39 : OKF 39 c_39 := ⟨af_ ai_ (ae_ ok_70 (ae_ ok_42 ag_)) Tryz.func39 (by kernel_rfl) (pl := .s .p (.s .p (.s (.s .p (.lp ⟨[(3, .one (.own 14)), (13, .d (.int .i64))], [(14, false, .row 63 (.st 3) [])], [1, 2, 11, 12], [0, 2], [], 15⟩ ⟨[(3, .one (.own 14))], [(14, false, .row 63 (.st 3) [])], [1, 2], [0, 2], [], 15⟩ false (.s .p (.s .p (.s (.s .p (.dr [0, 0, 0, 1, 0, 0, 4, 1, 2, 4] [4, 5] false [])) .p))))) .p))) fun _ => by kernel_rfl, by kernel_rfl⟩
def c_71 : Con te := ak_ te [.d (.int .i64)] [(.str, [])] false fun a => br_ a.1
theorem ok_71 : OKF 71 c_71 := ⟨af_ ai_ ag_ Tryz.func71 (by kernel_rfl) (pl := .p) fun _ => by kernel_rfl, by kernel_rfl⟩
def c_40 : Con te := ak_ te [.d (.int .i64)] [(.bool, [])] false fun a => es_ a.1
theorem ok_40 : OKF 40 c_40 := ⟨af_ ai_ (ae_ ok_71 ag_) Tryz.func40 (by kernel_rfl) (pl := .p) fun _ => by kernel_rfl, by kernel_rfl⟩
def c_76 : Con te := ak_ te [.d (.sl (.st 3)), .f1 (.st 3) .bool] [(.int .i64, [])] false fun a => bq_ a.1 a.2.1
theorem ok_76 : OKF 76 c_76 := ⟨af_ ai_ ag_ Tryz.func76 (by kernel_rfl) (pl := .s .p (.s (.s .p (.lp ⟨[(8, .d (.int .i64))], [], [0, 1, 7], [], [], 4⟩ ⟨[], [], [], [], [], 4⟩ true .p)) .p)) fun _ => by kernel_rfl, by kernel_rfl⟩
def c_72 : Con te := ak_ te [.d (.sl (.st 3)), .f1 (.st 3) .bool] [(.bool, [])] false fun a => cm_ a.1 a.2.1
theorem ok_72 : OKF 72 c_72 := ⟨af_ ai_ (ae_ ok_76 ag_) Tryz.func72 (by kernel_rfl) (pl := .p) fun _ => by kernel_rfl, by kernel_rfl⟩
def c_73 : Con te := ak_ te [.d (.st 3)] [(.bool, [])] false fun a => jU_ a.1
theorem ok_73 : OKF 73 c_73 := ⟨af_ ai_ ag_ Tryz.func73 (by kernel_rfl) (pl := .p) fun _ => by kernel_rfl, by kernel_rfl⟩
def c_41 : Con te := ak_ te [.d (.sl (.st 3))] [(.bool, [])] false fun a => f8_ a.1
theorem ok_41 : OKF 41 c_41 := ⟨af_ ai_ (ae_ ok_73 (ae_ ok_72 ag_)) Tryz.func41 (by kernel_rfl) (pl := .p) fun _ => by kernel_rfl, by kernel_rfl⟩
def c_77 : Con te := ak_ te [.d (.st 3), .p (.int .i64)] [(.bool, [])] false fun a => nu_ a.1 a.2.1
theorem ok_77 : OKF 77 c_77 := ⟨af_ ai_ ag_ Tryz.func77 (by kernel_rfl) (pl := .p) fun _ => by kernel_rfl, by kernel_rfl⟩
def c_48 : Con te := ak_ te [.d (.sl (.st 3)), .d (.int .i64)] [(.int .i64, [])] false fun a => ee_ a.1 a.2.1
theorem ok_48 : OKF 48 c_48 := ⟨af_ ai_ (ae_ ok_77 (ae_ ok_76 ag_)) Tryz.func48 (by kernel_rfl) (pl := .p) fun _ => by kernel_rfl, by kernel_rfl⟩
def c_107 : Con te := ak_ te [.d (.st 3), .p (.int .i64)] [(.bool, [])] false fun a => l7_ a.1 a.2.1
theorem ok_107 : OKF 107 c_107 := ⟨af_ ai_ ag_ Tryz.func107 (by kernel_rfl) (pl := .p) fun _ => by kernel_rfl, by kernel_rfl⟩
def c_64 : Con te := ak_ te [.d (.sl (.st 3)), .d (.int .i64)] [(.int .i64, [])] false fun a => fm_ a.1 a.2.1
theorem ok_64 : OKF 64 c_64 := ⟨af_ ai_ (ae_ ok_107 (ae_ ok_76 ag_)) Tryz.func64 (by kernel_rfl) (pl := .p) fun _ => by kernel_rfl, by kernel_rfl⟩
def c_43 : Con te := ak_ te [.d (.sl (.st 3))] [(.int .i64, [])] false fun a => lH_ a.1
theorem ok_43 : OKF 43 c_43 := ⟨af_ ai_ (ae_ ok_64 (ae_ ok_48 ag_)) Tryz.func43 (by kernel_rfl) (pl := .s .p (.s .p (.s (.lp ⟨[(3, .d (.int .i64))], [], [0], [], [], 2⟩ ⟨[(3, .d (.int .i64))], [], [], [], [], 2⟩ false .p) .p))) fun _ => by kernel_rfl, by kernel_rfl⟩
def c_103 : Con te := ak_ te [.d (.st 2)] [(.bool, [])] false fun a => cj_ a.1
theorem ok_103 : OKF 103 c_103 := ⟨af_ ai_ ag_ Tryz.func103 (by kernel_rfl) (pl := .s .p (.s (.s .p (.j ⟨[(5, .d .bool)], [], [1, 4], [0], [], 5⟩ false .p .p)) .p)) fun _ => by kernel_rfl, by kernel_rfl⟩
def c_139 : Con te := ak_ te [.d (.st 2), .d (.st 2)] [(.st 2, [])] true fun a => msg_rest a.1 a.2.1
theorem ok_139 : OKF 139 c_139 := ⟨af_ ai_ ag_ Tryz.func139 (by kernel_rfl) (pl := .s .p (.j ⟨[], [(2, true, .box 38 (.st 2))], [3, 4], [4], [], 6⟩ false (.s .p (.s .p (.s (.dr [0, 0, 0, 0, 0, 0, 0, 1, 4, 1, 4, 1] [] true [2]) (.s .p (.s .p (.s .p (.s (.dr [0, 0, 0, 0, 0, 0, 0, 1, 4, 1, 4, 1] [] true [2]) (.s .p (.s .p (.j ⟨[(39, .d .bool)], [], [2, 3, 4, 6], [0, 2, 4], [], 16⟩ false .p (.s .p (.s .p (.s .p (.s .p (.s (.dr [0, 0, 0, 0, 0, 1, 4, 1] [] true [2]) (.s .p (.s (.dr [0, 0, 0, 0, 0, 0, 0, 1, 4, 1, 4, 1] [] true [2]) (.s .p (.s (.dr [0, 0, 0, 0, 0, 0, 0, 1, 4, 1, 4, 1] [] true [2]) .p))))))))))))))))))) .p)) fun _ => by kernel_rfl, by kernel_rfl⟩
def c_105 : Con te := ak_ te [.d (.st 2)] [(.st 2, [])] true fun a => fQ_ a.1
theorem ok_105 : OKF 105 c_105 := ⟨af_ ai_ (ae_ ok_139 ag_) Tryz.func105 (by kernel_rfl) (pl := .s .p (.s .p (.j ⟨[], [(9, true, .box 38 (.st 2))], [2, 3], [2], [], 13⟩ true (.s .p (.s .p (.s (.dr [0, 0, 0, 0, 0, 1, 4, 1] [] true [9]) (.s .p (.s (.dr [0, 0, 0, 0, 0, 0, 0, 1, 4, 1, 4, 1] [] true [9]) (.s .p (.s (.dr [0, 0, 0, 0, 0, 0, 0, 1, 4, 1, 4, 1] [] true [9]) (.s .p (.s (.dr [0, 0, 0, 0, 0, 0, 0, 0, 0, 1, 4, 1, 4, 1, 4, 1] [] true [9]) (.j ⟨[(58, .d .bool)], [], [1, 2, 3, 10], [0, 2, 9], [], 23⟩ false .p (.s .p (.s .p (.s .p (.s .p (.s .p (.s .p (.s (.dr [0, 0, 0, 0, 0, 0, 0, 1, 4, 1, 4, 1] [] true [9]) (.s .p (.s .p (.s .p (.s (.dr [0, 0, 0, 0, 0, 1, 4, 1] [] true [9]) (.j ⟨[(98, .d .bool)], [], [1, 2, 3, 10], [0, 2, 9], [], 33⟩ false .p (.s (.dr [0, 0, 0, 0, 0, 1, 4, 1] [] true [9]) (.s .p (.s (.dr [0, 0, 0, 0, 0, 0, 0, 0, 0, 1, 4, 1, 4, 1, 4, 1] [] true [9]) .p))))))))))))))))))))))))) .p))) fun _ => by kernel_rfl, by kernel_rfl⟩
def c_135 : Con te := ak_ te [.d (.st 2)] [(.st 5, [])] false fun a => jl_ a.1
theorem ok_135 : OKF 135 c_135 := ⟨af_ ai_ ag_ Tryz.func135 (by kernel_rfl) (pl := .p) fun _ => by kernel_rfl, by kernel_rfl⟩
def c_136 : Con te := ak_ te [.d (.st 2)] [(.st 6, [])] false fun a => jm_ a.1
theorem ok_136 : OKF 136 c_136 := ⟨af_ ai_ ag_ Tryz.func136 (by kernel_rfl) (pl := .p) fun _ => by kernel_rfl, by kernel_rfl⟩
def c_137 : Con te := ak_ te [.d (.sl .str), .d (.sl .str)] [(.bool, [])] false fun a => cJ_ a.1 a.2.1
theorem ok_137 : OKF 137 c_137 := ⟨af_ ai_ ag_ Tryz.func137 (by kernel_rfl) (pl := .s .p (.s .p (.s (.s .p (.lp ⟨[(13, .d (.int .i64))], [], [0, 1, 12], [], [], 9⟩ ⟨[], [], [], [], [], 9⟩ true (.s .p (.s .p (.s (.s .p (.s (.dr [0, 0, 0, 0, 0, 0, 0, 0, 0] [] false []) .p)) .p))))) .p))) fun _ => by kernel_rfl, by kernel_rfl⟩
def c_138 : Con te := ak_ te [.d (.sl (.st 0)), .d (.sl (.st 0))] [(.bool, [])] false fun a => cK_ a.1 a.2.1
theorem ok_138 : OKF 138 c_138 := ⟨af_ ai_ ag_ Tryz.func138 (by kernel_rfl) (pl := .s .p (.s .p (.s (.s .p (.lp ⟨[(13, .d (.int .i64))], [], [0, 1, 12], [], [], 9⟩ ⟨[], [], [], [], [], 9⟩ true (.s .p (.s .p (.s (.s .p (.s (.dr [0, 0, 0, 0, 0, 0, 0, 0, 0] [] false []) .p)) .p))))) .p))) fun _ => by kernel_rfl, by kernel_rfl⟩
def c_104 : Con te := ak_ te [.d (.st 2), .d (.st 2)] [(.bool, [])] false fun a => jV_ a.1 a.2.1
theorem ok_104 : OKF 104 c_104 := ⟨af_ ai_ (ae_ ok_138 (ae_ ok_137 (ae_ ok_136 (ae_ ok_135 ag_)))) Tryz.func104 (by kernel_rfl) (pl := .s .p (.s .p (.s .p (.s (.dr [0, 0, 0, 0, 0, 0, 0, 0, 0, 0, 0, 0, 0, 0, 0, 0, 0, 0, 0, 0, 0, 0, 0, 0, 0, 0, 0, 0, 0, 0, 0, 0, 0, 0, 0, 0, 0, 0, 0, 0, 0, 0, 0, 0, 0, 0, 0, 0, 0, 0, 0, 0, 0, 0, 0, 0, 0, 0, 0] [] false []) .p)))) fun _ => by kernel_rfl, by kernel_rfl⟩
def c_141 : Con te := ak_ te [.d (.int .i64), .d (.int .i64), .d (.int .i64)] [(.int .i64, [])] false fun a => c2_ a.1 a.2.1 a.2.2.1
theorem ok_141 : OKF 141 c_141 := ⟨af_ ai_ ag_ Tryz.func141 (by kernel_rfl) (pl := .p) fun _ => by kernel_rfl, by kernel_rfl⟩
def c_142 : Con te := ak_ te [.d .str, .d (.int .i64)] [(.int .i64, [])] false fun a => dm_ a.1 a.2.1
theorem ok_142 : OKF 142 c_142 := ⟨af_ ai_ ag_ Tryz.func142 (by kernel_rfl) (pl := .p) fun _ => by kernel_rfl, by kernel_rfl⟩
def c_140 : Con te := ak_ te [.d (.sl (.int .i64))] [(.int .i64, [])] false fun a => cp_ a.1
theorem ok_140 : OKF 140 c_140 := ⟨af_ ai_ ag_ Tryz.func140 (by kernel_rfl) (pl := .s .p (.s (.s .p (.lp ⟨[(7, .d (.int .i64))], [], [5, 6], [], [], 4⟩ ⟨[], [], [], [], [], 4⟩ true .p)) .p)) fun _ => by kernel_rfl, by kernel_rfl⟩
def c_143 : Con te := ak_ te [.d (.int .i64)] [(.int .i64, [])] false fun a => dS_ a.1
theorem ok_143 : OKF 143 c_143 := ⟨af_ ai_ (ae_ ok_141 ag_) Tryz.func143 (by kernel_rfl) (pl := .p) fun _ => by kernel_rfl, by kernel_rfl⟩
def c_144 : Con te := ak_ te [.d (.st 0)] [(.int .i64, [])] false fun a => jC_ a.1
theorem ok_144 : OKF 144 c_144 := ⟨af_ ai_ (ae_ ok_140 (ae_ ok_141 ag_)) Tryz.func144 (by kernel_rfl) (pl := .s .p (.s .p (.s (.dr [0, 0, 0, 0, 0, 0, 1, 1, 4] [] false []) .p))) fun _ => by kernel_rfl, by kernel_rfl⟩
def c_168 : Con te := ak_ te [.d .str] [(.bool, [])] false fun a => f9_ a.1
theorem ok_168 : OKF 168 c_168 := ⟨af_ ai_ ag_ Tryz.func168 (by kernel_rfl) (pl := .s .p (.s .p (.s (.s .p (.lp ⟨[(21, .d (.int .i64))], [], [0, 20], [], [], 10009⟩ ⟨[], [], [], [], [], 10009⟩ true .p)) .p))) fun _ => by kernel_rfl, by kernel_rfl⟩
def c_145 : Con te := ak_ te [.d (.sl .str)] [(.int .i64, [])] false fun a => kp_ a.1
theorem ok_145 : OKF 145 c_145 := ⟨af_ ai_ (ae_ ok_168 ag_) Tryz.func145 (by kernel_rfl) (pl := .s .p (.s .p (.s (.s .p (.lp ⟨[(10, .d (.int .i64))], [], [8, 9], [], [], 7⟩ ⟨[], [], [], [], [], 7⟩ true .p)) .p))) fun _ => by kernel_rfl, by kernel_rfl⟩
def c_146 : Con te := ak_ te [.d (.sl (.st 0))] [(.int .i64, [])] false fun a => lI_ a.1
theorem ok_146 : OKF 146 c_146 := ⟨af_ ai_ (ae_ ok_144 ag_) Tryz.func146 (by kernel_rfl) (pl := .s .p (.s .p (.s (.s .p (.lp ⟨[(11, .d (.int .i64))], [], [9, 10], [], [], 7⟩ ⟨[], [], [], [], [], 7⟩ true .p)) .p))) fun _ => by kernel_rfl, by kernel_rfl⟩
def c_147 : Con te := ak_ te [.d .str] [(.int .i64, [])] false fun a => kq_ a.1
theorem ok_147 : OKF 147 c_147 := ⟨af_ ai_ (ae_ ok_168 ag_) Tryz.func147 (by kernel_rfl) (pl := .p) fun _ => by kernel_rfl, by kernel_rfl⟩
def c_169 : Con te := ak_ te [.d (.st 1)] [(.sl (.st 7), [some 182])] false fun a => hp_ a.1
theorem ok_169 : OKF 169 c_169 := ⟨af_ ai_ ag_ Tryz.func169 (by kernel_rfl) (pl := .p) fun _ => by kernel_rfl, by kernel_rfl⟩
def c_170 : Con te := ak_ te [.d (.int .i64), .d (.int .i64)] [(.bool, [])] false fun a => et_ a.1 a.2.1
theorem ok_170 : OKF 170 c_170 := ⟨af_ ai_ ag_ Tryz.func170 (by kernel_rfl) (pl := .p) fun _ => by kernel_rfl, by kernel_rfl⟩
def c_148 : Con te := ak_ te [.d (.st 1)] [(.int .i64, [])] false fun a => ga_ a.1
theorem ok_148 : OKF 148 c_148 := ⟨af_ ai_ (ae_ ok_168 (ae_ ok_170 (ae_ ok_169 ag_))) Tryz.func148 (by kernel_rfl) (pl := .s .p (.s (.s .p (.lp ⟨[(8, .d (.int .i64))], [(4, true, .row 182 (.st 7) [])], [1, 6, 7], [0], [], 8⟩ ⟨[], [], [1], [0], [], 8⟩ true .p)) .p)) fun _ => by kernel_rfl, by kernel_rfl⟩
def c_106 : Con te := ak_ te [.d (.st 2)] [(.int .i64, [])] false fun a => ad_ a.1
theorem ok_106 : OKF 106 c_106 := ⟨af_ ai_ (ae_ ok_148 (ae_ ok_147 (ae_ ok_146 (ae_ ok_145 (ae_ ok_144 (ae_ ok_143 (ae_ ok_140 (ae_ ok_142 (ae_ ok_141 ag_))))))))) Tryz.func106 (by kernel_rfl) (pl := .s .p (.s (.s .p (.j ⟨[(5, .d .bool)], [], [1, 4], [0], [], 5⟩ false .p (.s (.s (.dr [0, 0, 0, 0, 0, 0, 0, 0, 0, 1, 1, 4] [] false []) .p) (.s .p (.s (.s (.dr [0, 0, 0, 0, 0, 0, 0, 0, 0, 1, 1, 4] [] false []) .p) (.s .p (.s (.s (.dr [0, 0, 0, 0, 0, 0, 0, 0, 0, 0, 0, 0, 1, 1, 4] [] false []) .p) (.j ⟨[(48, .d .bool)], [], [1, 4], [0], [], 9⟩ false .p (.s (.s (.dr [0, 0, 0, 0, 0, 0, 1, 1, 4] [] false []) .p) (.s .p (.s .p (.s .p (.s .p (.s .p (.s (.s (.dr [0, 0, 0, 0, 0, 0, 0, 0, 0, 1, 1, 4] [] false []) .p) (.s .p (.s .p (.s .p (.s (.s (.dr [0, 0, 0, 0, 0, 0, 1, 1, 4] [] false []) .p) (.s .p (.s (.s (.dr [0, 0, 0, 0, 0, 0, 0, 0, 0, 0, 0, 0, 1, 1, 4] [] false []) .p) (.j ⟨[(115, .d .bool)], [], [1, 4], [0], [], 21⟩ false .p (.s (.s (.dr [0, 0, 0, 0, 0, 0, 0, 0, 0, 0, 0, 0, 1, 1, 4] [] false []) .p) (.j ⟨[(134, .d .bool)], [], [1, 4], [0], [], 21⟩ false .p (.s (.s (.dr [0, 0, 0, 0, 0, 0, 1, 1, 4] [] false []) .p) (.j ⟨[(145, .d .bool)], [], [1, 4], [0], [], 21⟩ false .p (.s (.s (.dr [0, 0, 0, 0, 0, 0, 0, 0, 0, 0, 0, 0, 1, 1, 4] [] false []) .p) .p))))))))))))))))))))))))))) .p)) fun _ => by kernel_rfl, by kernel_rfl⟩
def c_63 : Con te := ak_ te [.d (.st 2)] [(.int .i64, [])] false fun a => aX_ a.1
theorem ok_63 : OKF 63 c_63 := ⟨af_ ai_ (ae_ ok_106 (ae_ ok_104 (ae_ ok_105 (ae_ ok_103 (ae_ ok_71 ag_))))) Tryz.func63 (by kernel_rfl) (pl := .s .p (.s (.s .p (.s .p (.s .p (.s .p (.s (.dr [0, 1, 0, 1, 4, 4] [2] false []) .p))))) .p)) fun _ => by kernel_rfl, by kernel_rfl⟩
def c_81 : Con te := ak_ te [.d (.int .i64), .d (.int .i64)] [(.str, []), (.int .i64, [])] false fun a => ef_ a.1 a.2.1
theorem ok_81 : OKF 81 c_81 := ⟨af_ ai_ ag_ Tryz.func81 (by kernel_rfl) (pl := .s .p (.s .p (.s .p (.s .p (.s (.s .p (.lp ⟨[(31, .d (.int .i64))], [(13009, true, .row 5 (.int .u8) [])], [0, 6, 30], [], [], 13015⟩ ⟨[], [(13009, true, .row 5 (.int .u8) [])], [6], [], [], 13015⟩ false .p)) .p))))) fun _ => by kernel_rfl, by kernel_rfl⟩
def c_112 : Con te := ak_ te [.b 106 (.st 8), .d .str, .d (.int .i64)] [] false fun a => cP_ a.1 a.2.1 a.2.2.1
theorem ok_112 : OKF 112 c_112 := ⟨af_ ai_ ag_ Tryz.func112 (by kernel_rfl) (pl := .p) fun _ => by kernel_rfl, by kernel_rfl⟩
def c_78 : Con te := ak_ te [.b 106 (.st 8), .d (.int .i64), .d (.int .i64)] [] false fun a => av_ a.1 a.2.1 a.2.2.1
theorem ok_78 : OKF 78 c_78 := ⟨af_ ai_ (ae_ ok_112 (ae_ ok_81 ag_)) Tryz.func78 (by kernel_rfl) (pl := .p) fun _ => by kernel_rfl, by kernel_rfl⟩
def c_79 : Con te := ak_ te [.d (.int .i64)] [(.str, [])] false fun a => bz_ a.1
theorem ok_79 : OKF 79 c_79 := ⟨af_ ai_ ag_ Tryz.func79 (by kernel_rfl) (pl := .s .p (.s (.s .p (.s .p (.s .p (.s .p (.s .p (.s .p (.s .p (.j ⟨[(10, .d .bool)], [], [3], [], [], 8⟩ false .p (.s .p (.s .p (.s .p (.s .p (.s .p (.s .p (.s .p (.s .p (.s .p (.s .p (.s .p (.s .p (.s .p (.j ⟨[(25, .d .bool)], [], [3], [], [], 20⟩ false .p (.s .p (.s .p (.s .p (.s .p (.s .p (.s .p (.s .p (.s .p (.s .p (.s .p (.s .p (.j ⟨[(38, .d .bool)], [], [3], [], [], 30⟩ false .p .p)))))))))))))))))))))))))))))))))) .p)) fun _ => by kernel_rfl, by kernel_rfl⟩
def c_159 : Con te := ak_ te [.d .str] [(.str, []), (.int .i64, [])] false fun a => fe_ a.1
theorem ok_159 : OKF 159 c_159 := ⟨af_ ai_ (ae_ ok_81 ag_) Tryz.func159 (by kernel_rfl) (pl := .p) fun _ => by kernel_rfl, by kernel_rfl⟩
def c_113 : Con te := ak_ te [.b 106 (.st 8), .d .str] [] false fun a => bM_ a.1 a.2.1
theorem ok_113 : OKF 113 c_113 := ⟨af_ ai_ (ae_ ok_112 (ae_ ok_159 ag_)) Tryz.func113 (by kernel_rfl) (pl := .p) fun _ => by kernel_rfl, by kernel_rfl⟩
def c_114 : Con te := ak_ te [.b 106 (.st 8), .d (.st 0)] [] false fun a => eg_ a.1 a.2.1
theorem ok_114 : OKF 114 c_114 := ⟨af_ ai_ (ae_ ok_78 ag_) Tryz.func114 (by kernel_rfl) (pl := .p) fun _ => by kernel_rfl, by kernel_rfl⟩
def c_160 : Con te := ak_ te [.d (.int .i64)] [(.str, [])] false fun a => kr_ a.1
theorem ok_160 : OKF 160 c_160 := ⟨af_ ai_ ag_ Tryz.func160 (by kernel_rfl) (pl := .p) fun _ => by kernel_rfl, by kernel_rfl⟩
def c_161 : Con te := ak_ te [.d (.int .i64)] [(.str, [])] false fun a => jn_ a.1
theorem ok_161 : OKF 161 c_161 := ⟨af_ ai_ ag_ Tryz.func161 (by kernel_rfl) (pl := .p) fun _ => by kernel_rfl, by kernel_rfl⟩
def c_115 : Con te := ak_ te [.d (.int .i64)] [(.str, [])] false fun a => eW_ a.1
theorem ok_115 : OKF 115 c_115 := ⟨af_ ai_ (ae_ ok_161 (ae_ ok_160 ag_)) Tryz.func115 (by kernel_rfl) (pl := .p) fun _ => by kernel_rfl, by kernel_rfl⟩
def c_116 : Con te := ak_ te [.b 106 (.st 8), .d (.sl .str)] [] false fun a => ey_ a.1 a.2.1
theorem ok_116 : OKF 116 c_116 := ⟨af_ ai_ (ae_ ok_113 (ae_ ok_78 ag_)) Tryz.func116 (by kernel_rfl) (pl := .s .p (.s .p (.lp ⟨[(12, .d (.int .i64))], [(0, true, .box 106 (.st 8))], [0, 10, 11], [], [], 10⟩ ⟨[], [(0, true, .box 106 (.st 8))], [], [], [], 10⟩ false .p))) fun _ => by kernel_rfl, by kernel_rfl⟩
def c_117 : Con te := ak_ te [.b 106 (.st 8), .d (.sl (.st 0))] [] false fun a => eX_ a.1 a.2.1
theorem ok_117 : OKF 117 c_117 := ⟨af_ ai_ (ae_ ok_114 (ae_ ok_78 ag_)) Tryz.func117 (by kernel_rfl) (pl := .s .p (.s .p (.lp ⟨[(12, .d (.int .i64))], [(0, true, .box 106 (.st 8))], [0, 10, 11], [], [], 10⟩ ⟨[], [(0, true, .box 106 (.st 8))], [], [], [], 10⟩ false .p))) fun _ => by kernel_rfl, by kernel_rfl⟩
def c_118 : Con te := ak_ te [.b 106 (.st 8), .d .str, .d (.int .i64)] [] false fun a => dW_ a.1 a.2.1 a.2.2.1
theorem ok_118 : OKF 118 c_118 := ⟨af_ ai_ (ae_ ok_112 (ae_ ok_78 ag_)) Tryz.func118 (by kernel_rfl) (pl := .p) fun _ => by kernel_rfl, by kernel_rfl⟩
def c_178 : Con te := ak_ te [.d (.st 7)] [(.str, [])] false fun a => jY_ a.1
theorem ok_178 : OKF 178 c_178 := ⟨af_ ai_ (ae_ ok_81 (ae_ la_ ag_)) Tryz.func178 (by kernel_rfl) (pl := .p) fun _ => by kernel_rfl, by kernel_rfl⟩
def c_162 : Con te := ak_ te [.d (.st 1)] [(.str, []), (.int .i64, [])] false fun a => lJ_ a.1
theorem ok_162 : OKF 162 c_162 := ⟨af_ ai_ (ae_ ok_81 (ae_ ok_159 (ae_ ok_178 (ae_ ok_169 (ae_ ok_148 ag_))))) Tryz.func162 (by kernel_rfl) (pl := .s .p (.s .p (.s .p (.s (.s .p (.lp ⟨[(5, .d .str), (22, .d (.int .i64))], [(11, true, .row 182 (.st 7) [])], [1, 20, 21], [0], [], 15⟩ ⟨[(5, .d .str)], [], [1], [0], [], 15⟩ false .p)) (.s (.s .p (.lp ⟨[(5, .d .str), (41, .d (.int .i64))], [(23, true, .row 9 .str [])], [39, 40], [], [], 27⟩ ⟨[(5, .d .str)], [], [], [], [], 27⟩ true .p)) .p))))) fun _ => by kernel_rfl, by kernel_rfl⟩
def c_119 : Con te := ak_ te [.b 106 (.st 8), .d (.st 1)] [] false fun a => eY_ a.1 a.2.1
theorem ok_119 : OKF 119 c_119 := ⟨af_ ai_ (ae_ ok_118 (ae_ ok_112 (ae_ ok_162 ag_))) Tryz.func119 (by kernel_rfl) (pl := .p) fun _ => by kernel_rfl, by kernel_rfl⟩
def c_80 : Con te := ak_ te [.b 106 (.st 8), .d (.st 2), .d (.int .u8)] [] false fun a => ez_ a.1 a.2.1 a.2.2.1
theorem ok_80 : OKF 80 c_80 := ⟨af_ ai_ (ae_ ok_119 (ae_ ok_118 (ae_ ok_117 (ae_ ok_116 (ae_ ok_115 (ae_ ok_114 (ae_ ok_113 (ae_ ok_78 ag_)))))))) Tryz.func80 (by kernel_rfl) (pl := .p) fun _ => by kernel_rfl, by kernel_rfl⟩
def c_49 : Con te := ak_ te [.d (.st 2)] [(.str, []), (.int .i64, [])] false fun a => dx_ a.1
theorem ok_49 : OKF 49 c_49 := ⟨af_ ai_ (ae_ ok_81 (ae_ ok_80 (ae_ ok_79 (ae_ ok_78 (ae_ ok_63 ag_))))) Tryz.func49 (by kernel_rfl) (pl := .s .p (.s .p (.s .p (.s .p (.s .p (.s .p (.s (.s .p (.lp ⟨[(30, .d (.int .i64))], [(10, true, .box 106 (.st 8))], [1, 5, 6, 29], [0], [], 32⟩ ⟨[], [(10, true, .box 106 (.st 8))], [5], [], [], 32⟩ false (.s .p (.s .p (.s (.s .p (.dr [0, 0, 0, 0, 0, 2] [] false [])) .p))))) (.s (.s .p (.s (.s (.dr [0, 0, 0, 0, 0, 0] [] false []) .p) .p)) .p)))))))) fun _ => by kernel_rfl, by kernel_rfl⟩
def c_44 : Con te := ak_ te [.d (.st 4), .d (.st 2)] [(.str, []), (.int .i64, [])] false fun a => iw_ a.1 a.2.1
theorem ok_44 : OKF 44 c_44 := ⟨af_ ai_ (ae_ ok_49 ag_) Tryz.func44 (by kernel_rfl) (pl := .p) fun _ => by kernel_rfl, by kernel_rfl⟩
def c_18 : Con te := ak_ te [.d (.st 4), .d (.st 2)] [(.st 4, []), (.int .i64, []), (.str, []), (.int .i64, [])] true fun a => ks_ a.1 a.2.1
theorem ok_18 : OKF 18 c_18 := ⟨af_ ai_ (ae_ ok_44 (ae_ ok_43 (ae_ ok_42 (ae_ ok_41 (ae_ ok_40 (ae_ ok_39 ag_)))))) Tryz.func18 (by kernel_rfl) (pl := .s .p (.s .p (.s .p (.s .p (.s .p (.s .p (.j ⟨[], [(12043, true, .box 38 (.st 2))], [2, 4, 8, 10], [0, 4, 10, 11, 13], [], 12050⟩ false .p (.s .p (.s .p (.s .p (.s (.dr [0, 0, 0, 0, 1, 4, 4, 4] [] true [4]) .p))))))))))) fun _ => by kernel_rfl, by kernel_rfl⟩
def c_20 : Con te := ak_ te [.d (.st 4), .d (.int .i64)] [(.st 4, []), (.int .i64, []), (.str, []), (.int .i64, [])] true fun a => iI_ a.1 a.2.1
theorem ok_20 : OKF 20 c_20 := ⟨af_ ai_ (ae_ ok_49 (ae_ ok_43 (ae_ ok_48 (ae_ ok_39 ag_)))) Tryz.func20 (by kernel_rfl) (pl := .s .p (.s .p (.s .p (.s .p (.s .p (.s .p (.s .p (.s .p (.s (.dr [0, 0, 0, 0, 1, 4, 4, 4] [] true [2]) .p))))))))) fun _ => by kernel_rfl, by kernel_rfl⟩
def c_65 : Con te := ak_ te [.d .str, .d (.int .i64), .d (.int .i64)] [(.int .i64, []), (.int .i64, []), (.int .i64, [])] false fun a => cU_ a.1 a.2.1 a.2.2.1
theorem ok_65 : OKF 65 c_65 := ⟨af_ ai_ ag_ Tryz.func65 (by kernel_rfl) (pl := .s .p (.s .p (.s .p (.s .p (.s (.s .p (.lp ⟨[(9, .d (.int .u64)), (10, .d (.int .i64))], [], [0, 1, 2], [], [], 11018⟩ ⟨[(9, .d (.int .u64))], [], [1, 2], [], [], 11018⟩ false .p)) .p))))) fun _ => by kernel_rfl, by kernel_rfl⟩
def c_108 : Con te := ak_ te [.b 127 (.st 9), .d (.int .i64)] [(.int .i64, [])] false fun a => al_ a.1 a.2.1
theorem lb_ : OKF 108 c_108 := ⟨af_ ai_ (ae_ ok_65 ag_) Tryz.func108 (by kernel_rfl) (pl := .s .p (.s .p (.s (.dr [0, 0, 0, 0, 0, 0, 0, 0, 0, 0, 0, 0, 0, 0, 0, 0, 0] [] false []) .p))) fun _ => by kernel_rfl, by kernel_rfl⟩
def c_171 : Con te := ak_ te [.d .str, .d (.int .i64)] [(.str, []), (.int .i64, []), (.int .i64, [])] false fun a => ff_ a.1 a.2.1
theorem ok_171 : OKF 171 c_171 := ⟨af_ ai_ (ae_ ok_65 ag_) Tryz.func171 (by kernel_rfl) (pl := .p) fun _ => by kernel_rfl, by kernel_rfl⟩
def c_149 : Con te := ak_ te [.b 127 (.st 9)] [(.str, [])] false fun a => aG_ a.1
theorem ok_149 : OKF 149 c_149 := ⟨af_ ai_ (ae_ ok_171 ag_) Tryz.func149 (by kernel_rfl) (pl := .s .p (.s .p (.s (.dr [0, 0, 0, 0, 0, 0, 0, 0, 0, 0, 0, 0, 0, 0, 0, 0] [] false []) .p))) fun _ => by kernel_rfl, by kernel_rfl⟩
def c_150 : Con te := ak_ te [.b 127 (.st 9)] [(.st 0, [])] false fun a => aZ_ a.1
theorem ok_150 : OKF 150 c_150 := ⟨af_ ai_ (ae_ lb_ ag_) Tryz.func150 (by kernel_rfl) (pl := .p) fun _ => by kernel_rfl, by kernel_rfl⟩
def c_172 : Con te := ak_ te [.d .str] [(.int .i64, []), (.bool, [])] false fun a => df_ a.1
theorem ok_172 : OKF 172 c_172 := ⟨af_ ai_ (ae_ ok_115 ag_) Tryz.func172 (by kernel_rfl) (pl := .s .p (.s .p (.s (.s .p (.lp ⟨[(4, .d (.int .i64))], [], [0], [], [], 5⟩ ⟨[], [], [], [], [], 5⟩ true .p)) .p))) fun _ => by kernel_rfl, by kernel_rfl⟩
def c_151 : Con te := ak_ te [.b 127 (.st 9)] [(.int .i64, [])] false fun a => bB_ a.1
theorem ok_151 : OKF 151 c_151 := ⟨af_ ai_ (ae_ ok_172 (ae_ ok_149 ag_)) Tryz.func151 (by kernel_rfl) (pl := .p) fun _ => by kernel_rfl, by kernel_rfl⟩
def c_152 : Con te := ak_ te [.b 127 (.st 9)] [(.sl .str, [some 9])] false fun a => bb_ a.1
theorem ok_152 : OKF 152 c_152 := ⟨af_ ai_ (ae_ ok_149 (ae_ lb_ ag_)) Tryz.func152 (by kernel_rfl) (pl := .s .p (.s .p (.s (.s .p (.lp ⟨[(3, .one (.own 8)), (4, .d (.int .i64))], [(0, true, .box 127 (.st 9)), (8, false, .row 9 .str [])], [0], [], [], 9⟩ ⟨[(3, .one (.own 8))], [(8, false, .row 9 .str []), (0, true, .box 127 (.st 9))], [], [], [], 9⟩ false .p)) .p))) fun _ => by kernel_rfl, by kernel_rfl⟩
def c_153 : Con te := ak_ te [.b 127 (.st 9)] [(.sl (.st 0), [some 33])] false fun a => bk_ a.1
theorem ok_153 : OKF 153 c_153 := ⟨af_ ai_ (ae_ ok_150 (ae_ lb_ ag_)) Tryz.func153 (by kernel_rfl) (pl := .s .p (.s .p (.s (.s .p (.lp ⟨[(3, .one (.own 8)), (4, .d (.int .i64))], [(0, true, .box 127 (.st 9)), (8, false, .row 33 (.st 0) [])], [0], [], [], 9⟩ ⟨[(3, .one (.own 8))], [(8, false, .row 33 (.st 0) []), (0, true, .box 127 (.st 9))], [], [], [], 9⟩ false .p)) .p))) fun _ => by kernel_rfl, by kernel_rfl⟩
def c_154 : Con te := ak_ te [.b 127 (.st 9), .d (.int .i64)] [(.str, [])] false fun a => aK_ a.1 a.2.1
theorem ok_154 : OKF 154 c_154 := ⟨af_ ai_ (ae_ lb_ ag_) Tryz.func154 (by kernel_rfl) (pl := .s .p (.s .p (.s (.s (.dr [0, 0, 0, 0, 0, 0, 0, 0, 0, 0, 0, 0, 0, 0, 0, 0, 0, 0, 0] [] false []) .p) (.s .p (.s (.dr [0, 0, 0, 0, 0, 0, 0, 0, 0, 0, 0, 0, 0, 0, 0, 0] [] false []) .p))))) fun _ => by kernel_rfl, by kernel_rfl⟩
def c_186 : Con te := ak_ te [.b 194 (.st 10), .d (.int .i64)] [(.int .i64, [])] false fun a => aE_ a.1 a.2.1
theorem ok_186 : OKF 186 c_186 := ⟨af_ ai_ (ae_ ok_65 (ae_ lN_ ag_)) Tryz.func186 (by kernel_rfl) (pl := .s .p (.s (.s (.dr [0, 0, 0, 0, 0, 0, 0, 0, 0, 0, 0, 0, 0, 0, 0, 0, 0, 0, 0] [] false []) .p) (.s (.dr [0, 0, 0, 0, 0, 0, 0, 0, 0, 0, 0, 0, 0, 0, 0, 0] [] false []) .p))) fun _ => by kernel_rfl, by kernel_rfl⟩
def c_187 : Con te := ak_ te [.b 194 (.st 10)] [(.str, [])] false fun a => ba_ a.1
theorem ok_187 : OKF 187 c_187 := ⟨af_ ai_ (ae_ ok_171 ag_) Tryz.func187 (by kernel_rfl) (pl := .s .p (.s .p (.s (.dr [0, 0, 0, 0, 0, 0, 0, 0, 0, 0, 0, 0, 0, 0, 0, 0] [] false []) .p))) fun _ => by kernel_rfl, by kernel_rfl⟩
def c_180 : Con te := ak_ te [.b 194 (.st 10)] [(.st 1, [])] false fun a => ca_ a.1
theorem ok_180 : OKF 180 c_180 := ⟨af_ ai_ (ae_ ok_187 (ae_ ok_186 ag_)) Tryz.func180 (by kernel_rfl) (pl := .p) fun _ => by kernel_rfl, by kernel_rfl⟩
def c_173 : Con te := ak_ te [.d .str, .d (.int .i64)] [(.st 1, []), (.int .i64, []), (.int .i64, [])] false fun a => lK_ a.1 a.2.1
theorem ok_173 : OKF 173 c_173 := ⟨af_ ai_ (ae_ ok_148 (ae_ ok_180 (ae_ ok_65 ag_))) Tryz.func173 (by kernel_rfl) (pl := .p) fun _ => by kernel_rfl, by kernel_rfl⟩
def c_155 : Con te := ak_ te [.b 127 (.st 9)] [(.st 1, [])] false fun a => bl_ a.1
theorem ok_155 : OKF 155 c_155 := ⟨af_ ai_ (ae_ ok_173 (ae_ ok_154 ag_)) Tryz.func155 (by kernel_rfl) (pl := .p) fun _ => by kernel_rfl, by kernel_rfl⟩
def c_109 : Con te := ak_ te [.b 127 (.st 9), .b 38 (.st 2), .d (.int .u8)] [] true fun a => ah_ a.1 a.2.1 a.2.2.1
theorem ok_109 : OKF 109 c_109 := ⟨af_ ai_ (ae_ ok_155 (ae_ ok_154 (ae_ ok_153 (ae_ ok_152 (ae_ ok_151 (ae_ ok_150 (ae_ ok_149 (ae_ lb_ ag_)))))))) Tryz.func109 (by kernel_rfl) (pl := .p) fun _ => by kernel_rfl, by kernel_rfl⟩
def c_66 : Con te := ak_ te [.d .str, .d (.int .i64)] [(.st 2, []), (.int .i64, []), (.int .i64, [])] true fun a => bS_ a.1 a.2.1
theorem ok_66 : OKF 66 c_66 := ⟨af_ ai_ (ae_ ok_63 (ae_ ok_71 (ae_ ok_109 (ae_ ok_79 (ae_ lb_ (ae_ ok_65 ag_)))))) Tryz.func66 (by kernel_rfl) (pl := .s .p (.s .p (.s .p (.s .p (.s .p (.s .p (.s (.s .p (.lp ⟨[(61, .d (.int .i64))], [(37, true, .box 127 (.st 9)), (49, true, .box 38 (.st 2))], [1, 4, 7, 10, 11, 12, 60], [0], [], 60⟩ ⟨[], [(37, true, .box 127 (.st 9)), (49, true, .box 38 (.st 2))], [1, 4, 7, 10, 11], [0], [], 60⟩ false .p)) .p))))))) fun _ => by kernel_rfl, by kernel_rfl⟩
def c_35 : Con te := ak_ te [.d .str, .d (.int .i64)] [(.sl (.st 2), []), (.str, []), (.int .i64, [])] true fun a => bw_ a.1 a.2.1
theorem ok_35 : OKF 35 c_35 := ⟨af_ ai_ (ae_ ok_66 (ae_ ok_65 ag_)) Tryz.func35 (by kernel_rfl) (pl := .s .p (.s .p (.j ⟨[(7, .d (.int .i64))], [], [0], [], [], 5⟩ false .p (.s .p (.s (.lp ⟨[(0, .d .str), (8, .one (.own 6))], [(6, false, .row 38 (.st 2) [])], [7], [], [], 7⟩ ⟨[(0, .d .str), (8, .one (.own 6))], [(6, false, .row 38 (.st 2) [])], [], [], [], 7⟩ true (.s .p (.s .p (.s .p (.s .p (.s .p (.s .p (.dr [0, 0, 1, 2, 4, 4, 4, 4, 4] [4, 5, 6] false [])))))))) .p))))) fun _ => by kernel_rfl, by kernel_rfl⟩
def c_58 : Con te := ak_ te [.d (.st 2), .d (.int .i64)] [(.st 2, [])] true fun a => h4_ a.1 a.2.1
theorem ok_58 : OKF 58 c_58 := ⟨af_ ai_ ag_ Tryz.func58 (by kernel_rfl) (pl := .p) fun _ => by kernel_rfl, by kernel_rfl⟩
def c_27 : Con te := ak_ te [.d (.st 4)] [(.st 4, []), (.sl (.st 2), [])] true fun a => jZ_ a.1
theorem ok_27 : OKF 27 c_27 := ⟨af_ ai_ (ae_ ok_58 (ae_ ok_39 ag_)) Tryz.func27 (by kernel_rfl) (pl := .s .p (.s .p (.s .p (.s .p (.s (.s .p (.lp ⟨[(5, .one (.own 21)), (17, .d (.int .i64))], [(21, false, .row 38 (.st 2) [])], [2, 4, 15, 16], [2, 6, 7, 9], [], 22⟩ ⟨[(5, .one (.own 21))], [(21, false, .row 38 (.st 2) [])], [2, 4], [2, 6, 7, 9], [], 22⟩ false .p)) .p))))) fun _ => by kernel_rfl, by kernel_rfl⟩
def c_120 : Con te := ak_ te [.d (.int .i64)] [(.int .i64, [])] false fun a => ha_ a.1
theorem ok_120 : OKF 120 c_120 := ⟨af_ ai_ (ae_ ok_40 ag_) Tryz.func120 (by kernel_rfl) (pl := .p) fun _ => by kernel_rfl, by kernel_rfl⟩
def c_82 : Con te := ak_ te [.d (.st 2), .d (.st 2)] [(.bool, [])] false fun a => cg_ a.1 a.2.1
theorem ok_82 : OKF 82 c_82 := ⟨af_ ai_ (ae_ ok_120 (ae_ ok_40 ag_)) Tryz.func82 (by kernel_rfl) (pl := .s .p (.s .p (.s .p (.s (.s (.dr [0, 0, 0, 0, 0, 0] [] false []) .p) .p)))) fun _ => by kernel_rfl, by kernel_rfl⟩
def c_83 : Con te := ak_ te [.d (.st 2), .d (.st 2)] [(.int .i64, [])] false fun a => eZ_ a.1 a.2.1
theorem ok_83 : OKF 83 c_83 := ⟨af_ ai_ ag_ Tryz.func83 (by kernel_rfl) (pl := .p) fun _ => by kernel_rfl, by kernel_rfl⟩
theorem e_22 (a : PA te [.d (.st 4), .d .str]) : ct_ a.1 a.2.1 = evFun Tryz.prog te eqL (ti 50 (inlF Tryz.prog te eqL (ti 85 (inlF Tryz.prog te eqL (ti 84 (inlF Tryz.prog te eqL (tb 121 ek_ tnil) Tryz.f84 (.p : Pl)) (tb 58 c_58 tnil)) Tryz.f85 (.s .p (.s (.s .p (.s (.s (.ot 0 (.free 0 (.free 1 (.free 2 (.free 3 (.free 5 (.free 6 (.alt 4 (.alt 7 (.alt 8 (.alt 9 (.alt 10 (.free 11 (.free 12 (.alt 13 .nil .nil))) .nil) .nil) .nil) .nil) (.alt 7 (.alt 4 (.alt 8 (.alt 9 (.alt 10 (.free 11 (.free 12 (.alt 13 .nil .nil))) .nil) .nil) .nil) (.alt 8 (.alt 4 (.alt 9 (.alt 10 (.free 11 (.free 12 (.alt 13 .nil .nil))) .nil) .nil) (.alt 9 (.alt 4 (.alt 10 (.free 11 (.free 12 (.alt 13 .nil .nil))) .nil) .nil) .nil)) .nil)) .nil))))))))) .p) .p)) .p))) (ti 84 (inlF Tryz.prog te eqL (tb 121 ek_ tnil) Tryz.f84 (.p : Pl)) (tb 83 c_83 (tb 82 c_82 (tb 48 c_48 tnil))))) Tryz.f50 (.s .p (.s (.dr [0, 0, 0, 0, 0, 0, 0, 0, 0] [] false []) (.s .p (.s .p (.s .p (.s .p (.s .p (.j ⟨[], [(11, true, .cells 78 [.v .bool, .v (.int .i64), .v .str, .own 7, .own 119, .v .str, .own 44]), (7, true, .row 3 (.int .i64) []), (119, true, .row 63 (.st 3) []), (44, true, .row 38 (.st 2) [])], [0, 3, 6], [54, 78], [], 330⟩ false (.s .p (.s (.dr [0, 0, 0, 0, 0, 0, 0, 0, 0, 1, 4, 4, 4, 1] [] true [11]) .p)) (.j ⟨[], [(11, true, .cells 78 [.v .bool, .v (.int .i64), .v .str, .own 7, .own 330, .v .str, .own 331]), (7, true, .row 3 (.int .i64) []), (330, false, .row 63 (.st 3) []), (331, false, .row 38 (.st 2) [])], [0, 3], [54], [], 332⟩ false (.s .p (.s (.s (.dr [0, 0, 0, 0, 0, 0, 0, 0, 0] [] false []) .p) .p)) (.s (.dr [4, 0, 0, 0, 0, 0, 1, 2, 4, 4, 2] [0, 1, 2, 3, 4, 5] false []) .p))))))))))) (tb 58 c_58 (tb 121 ek_ (tb 83 c_83 (tb 82 c_82 (tb 48 c_48 (tb 27 c_27 (tb 35 c_35 (tb 39 c_39 tnil))))))))) Tryz.f22 [.d (.st 4), .d .str] [(.st 4, []), (.sl (.st 2), []), (.int .i64, [])] (.s .p (.s .p (.s .p (.s .p (.s .p (.s .p (.s (.s .p (.lp ⟨[(10, .d (.int .i64)), (56, .d (.int .i64))], [(11, true, .cells 78 [.v .bool, .v (.int .i64), .v .str, .own 7, .own 43, .v .str, .own 44]), (7, true, .row 3 (.int .i64) []), (43, false, .row 63 (.st 3) []), (44, false, .row 38 (.st 2) [])], [4, 7, 9, 54, 55], [2], [], 45⟩ ⟨[(10, .d (.int .i64))], [(11, true, .cells 78 [.v .bool, .v (.int .i64), .v .str, .own 7, .own 43, .v .str, .own 44]), (7, true, .row 3 (.int .i64) []), (43, false, .row 63 (.st 3) []), (44, false, .row 38 (.st 2) [])], [4, 7, 9], [2], [], 45⟩ false .p)) (.j ⟨[(10, .d (.int .i64))], [], [4, 7], [2, 7, 11, 43, 44], [], 45⟩ false .p (.s (.s .p (.s (.s .p (.s (.dr [0, 0, 0, 0, 0, 0, 1, 0, 1, 4, 4] [7] true [2, 44]) .p)) .p)) (.s (.dr [0, 0, 0, 0, 0, 0, 0, 0, 1, 4, 4] [] true [2]) .p)))))))))) a := by kernel_rfl
def c_22 : Con te := ak_ te [.d (.st 4), .d .str] [(.st 4, []), (.sl (.st 2), []), (.int .i64, [])] true fun a => ct_ a.1 a.2.1
theorem ok_22 : OKF 22 c_22 := ⟨af_ ai_ (ti_ok ⟨m7_ ai_ (ti_ok ⟨m7_ ai_ (ti_ok ⟨m7_ ai_ (ae_ eJ_ ag_) Tryz.func84, by kernel_rfl⟩ (ae_ ok_58 ag_)) Tryz.func85, by kernel_rfl⟩ (ti_ok ⟨m7_ ai_ (ae_ eJ_ ag_) Tryz.func84, by kernel_rfl⟩ (ae_ ok_83 (ae_ ok_82 (ae_ ok_48 ag_))))) Tryz.func50, by kernel_rfl⟩ (ae_ ok_58 (ae_ eJ_ (ae_ ok_83 (ae_ ok_82 (ae_ ok_48 (ae_ ok_27 (ae_ ok_35 (ae_ ok_39 ag_))))))))) Tryz.func22 (by kernel_rfl) e_22, by kernel_rfl⟩
def c_33 : Con te := ak_ te [.d (.sl (.int .i64))] [(.bool, [])] false fun a => gD_ a.1
theorem ok_33 : OKF 33 c_33 := ⟨af_ ai_ ag_ Tryz.func33 (by kernel_rfl) (pl := .s .p (.s .p (.s (.s .p (.lp ⟨[(10, .d (.int .i64))], [], [0, 8, 9], [], [], 7⟩ ⟨[], [], [], [], [], 7⟩ true .p)) .p))) fun _ => by kernel_rfl, by kernel_rfl⟩
def c_34 : Con te := ak_ te [.d (.sl (.st 3)), .d (.int .i64)] [(.bool, [])] false fun a => gE_ a.1 a.2.1
theorem ok_34 : OKF 34 c_34 := ⟨af_ ai_ (ae_ ok_64 (ae_ ok_48 (ae_ ok_63 (ae_ ok_40 ag_)))) Tryz.func34 (by kernel_rfl) (pl := .s .p (.s .p (.s .p (.s (.s .p (.s .p (.s .p (.s .p (.s (.s .p (.s (.dr [0, 0, 0, 0, 0, 0, 0, 0, 0, 0, 0, 0, 0, 0, 0, 0, 0, 0, 0, 0, 0, 0, 0, 0, 0, 0, 0, 0, 0, 0, 0, 0, 0, 0] [] false []) .p)) .p))))) (.s (.dr [0, 0, 0, 0, 0, 0, 0, 0, 0, 0, 0, 0, 0, 0, 0, 0] [] false []) .p))))) fun _ => by kernel_rfl, by kernel_rfl⟩
def c_12 : Con te := ak_ te [.d (.st 4)] [(.bool, [])] false fun a => kt_ a.1
theorem ok_12 : OKF 12 c_12 := ⟨af_ ai_ (ae_ ok_35 (ae_ ok_34 (ae_ ok_33 ag_))) Tryz.func12 (by kernel_rfl) (pl := .s .p (.s .p (.s (.s .p (.lp ⟨[(41, .d (.int .i64))], [], [1, 40], [0], [], 24014⟩ ⟨[], [], [1], [0], [], 24014⟩ true .p)) .p))) fun _ => by kernel_rfl, by kernel_rfl⟩
def c_11 : Con te := ak_ te [] [(.bool, [])] false fun _ => cu_
theorem ok_11 : OKF 11 c_11 := ⟨af_ ai_ (ae_ ok_12 (ae_ ok_22 (ae_ ok_20 (ae_ ok_18 (ae_ ok_15 ag_))))) Tryz.func11 (by kernel_rfl) (pl := .p) fun _ => by kernel_rfl, by kernel_rfl⟩
def c_98 : Con te := ak_ te [.d (.int .i64)] [(.str, [])] false fun a => lL_ a.1
theorem ok_98 : OKF 98 c_98 := ⟨af_ ai_ ag_ Tryz.func98 (by kernel_rfl) (pl := .p) fun _ => by kernel_rfl, by kernel_rfl⟩
def c_57 : Con te := ak_ te [.d (.int .i64)] [(.str, [])] false fun a => eh_ a.1
theorem ok_57 : OKF 57 c_57 := ⟨af_ ai_ (ae_ ok_98 ag_) Tryz.func57 (by kernel_rfl) (pl := .p) fun _ => by kernel_rfl, by kernel_rfl⟩
def c_26 : Con te := ak_ te [.d (.int .i64)] [(.bool, [])] false fun a => cV_ a.1
theorem ok_26 : OKF 26 c_26 := ⟨af_ ai_ (ae_ ok_57 ag_) Tryz.func26 (by kernel_rfl) (pl := .p) fun _ => by kernel_rfl, by kernel_rfl⟩
def c_88 : Con te := ak_ te [.d (.st 2)] [(.int .i64, [])] false fun a => iJ_ a.1
theorem ok_88 : OKF 88 c_88 := ⟨af_ ai_ ag_ Tryz.func88 (by kernel_rfl) (pl := .p) fun _ => by kernel_rfl, by kernel_rfl⟩
def c_91 : Con te := ak_ te [.d (.int .i64)] [(.str, [])] false fun a => cQ_ a.1
theorem ok_91 : OKF 91 c_91 := ⟨af_ ai_ ag_ Tryz.func91 (by kernel_rfl) (pl := .s .p (.s (.s .p (.s .p (.s .p (.s .p (.s .p (.s .p (.s .p (.j ⟨[(10, .d .bool)], [], [3], [], [], 8⟩ false .p (.s .p (.s .p (.s .p (.s .p (.s .p (.s .p (.s .p (.s .p (.s .p (.s .p (.s .p (.s .p (.s .p (.j ⟨[(25, .d .bool)], [], [3], [], [], 20⟩ false .p (.s .p (.s .p (.s .p (.s .p (.s .p (.s .p (.s .p (.s .p (.s .p (.s .p (.s .p (.j ⟨[(38, .d .bool)], [], [3], [], [], 30⟩ false .p .p)))))))))))))))))))))))))))))))))) .p)) fun _ => by kernel_rfl, by kernel_rfl⟩
def c_89 : Con te := ak_ te [.d (.int .i64), .d (.int .u8)] [(.bool, [])] false fun a => hr_ a.1 a.2.1
theorem ok_89 : OKF 89 c_89 := ⟨af_ ai_ (ae_ ok_91 ag_) Tryz.func89 (by kernel_rfl) (pl := .s .p (.s .p (.s (.s .p (.lp ⟨[(6, .d (.int .i64))], [], [1, 5], [], [], 5⟩ ⟨[], [], [], [], [], 5⟩ true .p)) .p))) fun _ => by kernel_rfl, by kernel_rfl⟩
def c_123 : Con te := ak_ te [.d (.st 2), .d (.int .u8)] [(.bool, [])] false fun a => h5_ a.1 a.2.1
theorem ok_123 : OKF 123 c_123 := ⟨af_ ai_ ag_ Tryz.func123 (by kernel_rfl) (pl := .p) fun _ => by kernel_rfl, by kernel_rfl⟩
def c_90 : Con te := ak_ te [.d (.st 2), .d (.int .u8)] [(.bool, [])] false fun a => jo_ a.1 a.2.1
theorem ok_90 : OKF 90 c_90 := ⟨af_ ai_ (ae_ ok_123 ag_) Tryz.func90 (by kernel_rfl) (pl := .p) fun _ => by kernel_rfl, by kernel_rfl⟩
def c_124 : Con te := ak_ te [.d (.int .i64), .d (.int .i64)] [(.int .i64, [])] false fun a => bg_ a.1 a.2.1
theorem ok_124 : OKF 124 c_124 := ⟨af_ ai_ ag_ Tryz.func124 (by kernel_rfl) (pl := .p) fun _ => by kernel_rfl, by kernel_rfl⟩
def c_125 : Con te := ak_ te [.d .str, .d (.int .i64)] [(.int .i64, [])] false fun a => dn_ a.1 a.2.1
theorem ok_125 : OKF 125 c_125 := ⟨af_ ai_ ag_ Tryz.func125 (by kernel_rfl) (pl := .p) fun _ => by kernel_rfl, by kernel_rfl⟩
def c_163 : Con te := ak_ te [.d .str] [(.bool, [])] false fun a => fp_ a.1
theorem ok_163 : OKF 163 c_163 := ⟨af_ ai_ ag_ Tryz.func163 (by kernel_rfl) (pl := .s .p (.s (.s .p (.lp ⟨[(3, .d (.int .i64))], [], [0], [], [], 2⟩ ⟨[], [], [0], [], [], 2⟩ true .p)) .p)) fun _ => by kernel_rfl, by kernel_rfl⟩
def c_126 : Con te := ak_ te [.d (.sl .str)] [(.int .i64, [])] false fun a => iy_ a.1
theorem ok_126 : OKF 126 c_126 := ⟨af_ ai_ (ae_ ok_163 ag_) Tryz.func126 (by kernel_rfl) (pl := .s .p (.s .p (.s (.s .p (.lp ⟨[(9, .d (.int .i64))], [], [0, 8], [], [], 7⟩ ⟨[], [], [], [], [], 7⟩ true .p)) .p))) fun _ => by kernel_rfl, by kernel_rfl⟩
def c_128 : Con te := ak_ te [.d (.st 0)] [(.int .i64, [])] false fun a => iK_ a.1
theorem ok_128 : OKF 128 c_128 := ⟨af_ ai_ ag_ Tryz.func128 (by kernel_rfl) (pl := .p) fun _ => by kernel_rfl, by kernel_rfl⟩
def c_127 : Con te := ak_ te [.d (.sl (.st 0))] [(.int .i64, [])] false fun a => jp_ a.1
theorem ok_127 : OKF 127 c_127 := ⟨af_ ai_ (ae_ ok_128 ag_) Tryz.func127 (by kernel_rfl) (pl := .s .p (.s .p (.s (.s .p (.lp ⟨[(10, .d (.int .i64))], [], [0, 9], [], [], 7⟩ ⟨[], [], [], [], [], 7⟩ true .p)) .p))) fun _ => by kernel_rfl, by kernel_rfl⟩
def c_184 : Con te := ak_ te [.d (.int .i64), .d (.int .i64)] [(.bool, [])] false fun a => ku_ a.1 a.2.1
theorem ok_184 : OKF 184 c_184 := ⟨af_ ai_ ag_ Tryz.func184 (by kernel_rfl) (pl := .p) fun _ => by kernel_rfl, by kernel_rfl⟩
def c_185 : Con te := ak_ te [.d (.int .i64), .d (.int .i64)] [(.bool, [])] false fun a => e1_ a.1 a.2.1
theorem ok_185 : OKF 185 c_185 := ⟨af_ ai_ ag_ Tryz.func185 (by kernel_rfl) (pl := .p) fun _ => by kernel_rfl, by kernel_rfl⟩
def c_179 : Con te := ak_ te [.d (.st 1)] [(.bool, [])] false fun a => gF_ a.1
theorem ok_179 : OKF 179 c_179 := ⟨af_ ai_ (ae_ ok_185 (ae_ ok_184 ag_)) Tryz.func179 (by kernel_rfl) (pl := .p) fun _ => by kernel_rfl, by kernel_rfl⟩
def c_164 : Con te := ak_ te [.d (.st 1)] [(.int .i64, [])] false fun a => fq_ a.1
theorem ok_164 : OKF 164 c_164 := ⟨af_ ai_ (ae_ ok_163 (ae_ ok_179 ag_)) Tryz.func164 (by kernel_rfl) (pl := .p) fun _ => by kernel_rfl, by kernel_rfl⟩
def c_129 : Con te := ak_ te [.d (.st 2), .d (.int .u8)] [(.int .i64, [])] false fun a => hs_ a.1 a.2.1
theorem ok_129 : OKF 129 c_129 := ⟨af_ ai_ (ae_ ok_164 (ae_ ok_125 (ae_ ok_163 (ae_ ok_124 ag_)))) Tryz.func129 (by kernel_rfl) (pl := .p) fun _ => by kernel_rfl, by kernel_rfl⟩
def c_92 : Con te := ak_ te [.d (.st 2), .d (.int .u8)] [(.int .i64, [])] false fun a => iz_ a.1 a.2.1
theorem ok_92 : OKF 92 c_92 := ⟨af_ ai_ (ae_ ok_129 (ae_ ok_128 (ae_ ok_127 (ae_ ok_126 (ae_ ok_125 (ae_ ok_124 ag_)))))) Tryz.func92 (by kernel_rfl) (pl := .p) fun _ => by kernel_rfl, by kernel_rfl⟩
def c_52 : Con te := ak_ te [.d (.st 2)] [(.int .i64, [])] false fun a => ch_ a.1
theorem ok_52 : OKF 52 c_52 := ⟨af_ ai_ (ae_ ok_92 (ae_ ok_91 (ae_ ok_90 (ae_ ok_89 (ae_ ok_88 (ae_ ok_57 ag_)))))) Tryz.func52 (by kernel_rfl) (pl := .s .p (.s .p (.s .p (.s (.s .p (.lp ⟨[(4, .d (.int .i64))], [], [1], [0], [], 13⟩ ⟨[], [], [1], [0], [], 13⟩ true (.s .p (.s (.s (.dr [0, 0, 0, 0, 0, 0, 0, 0, 0, 0, 0, 0, 0] [] false []) .p) .p)))) (.s .p (.s (.s .p (.lp ⟨[(6, .d (.int .i64))], [], [1, 5], [0], [], 18⟩ ⟨[], [], [], [], [], 18⟩ true (.s .p (.s (.s (.dr [0, 0, 0, 0, 0, 0] [] false []) .p) .p)))) .p)))))) fun _ => by kernel_rfl, by kernel_rfl⟩
def c_45 : Con te := ak_ te [.d (.sl (.st 3)), .d (.int .i64)] [(.int .i64, [])] false fun a => cM_ a.1 a.2.1
theorem ok_45 : OKF 45 c_45 := ⟨af_ ai_ ag_ Tryz.func45 (by kernel_rfl) (pl := .s .p (.s (.s .p (.lp ⟨[(5, .d (.int .i64))], [], [0, 1], [], [], 2⟩ ⟨[], [], [], [], [], 2⟩ true .p)) .p)) fun _ => by kernel_rfl, by kernel_rfl⟩
def c_67 : Con te := ak_ te [.d (.sl (.st 3)), .d (.int .i64)] [(.int .i64, [])] false fun a => fr_ a.1 a.2.1
theorem ok_67 : OKF 67 c_67 := ⟨af_ ai_ ag_ Tryz.func67 (by kernel_rfl) (pl := .s .p (.s (.s .p (.lp ⟨[(5, .d (.int .i64))], [], [0, 1], [], [], 2⟩ ⟨[], [], [], [], [], 2⟩ true .p)) .p)) fun _ => by kernel_rfl, by kernel_rfl⟩
def c_36 : Con te := ak_ te [.d (.sl (.st 3))] [(.bool, [])] false fun a => e2_ a.1
theorem ok_36 : OKF 36 c_36 := ⟨af_ ai_ (ae_ ok_67 (ae_ ok_45 (ae_ ok_52 (ae_ ok_26 ag_)))) Tryz.func36 (by kernel_rfl) (pl := .s .p (.s (.s .p (.lp ⟨[(3, .d (.int .i64))], [], [0], [], [], 2⟩ ⟨[], [], [0], [], [], 2⟩ true (.s .p (.s (.s .p (.s .p (.s .p (.s (.s (.dr [0, 0, 0, 0, 0, 0, 0, 0, 0, 0, 0, 0, 0, 0, 0, 0, 0, 0, 0, 0, 0, 0, 0, 0, 0] [] false []) .p) (.s .p (.j ⟨[(6, .d (.int .i64))], [], [0, 3], [], [], 50037⟩ false .p .p)))))) .p)))) .p)) fun _ => by kernel_rfl, by kernel_rfl⟩
def c_97 : Con te := ak_ te [.d (.int .i64)] [(.bool, [])] false fun a => gp_ a.1
theorem ok_97 : OKF 97 c_97 := ⟨af_ ai_ ag_ Tryz.func97 (by kernel_rfl) (pl := .p) fun _ => by kernel_rfl, by kernel_rfl⟩
def c_68 : Con te := ak_ te [.d .str, .d (.int .i64), .d (.int .i64)] [(.int .i64, []), (.int .i64, []), (.int .i64, [])] false fun a => eP_ a.1 a.2.1 a.2.2.1
theorem ok_68 : OKF 68 c_68 := ⟨af_ ai_ (ae_ ok_97 ag_) Tryz.func68 (by kernel_rfl) (pl := .s .p (.s .p (.s .p (.s .p (.s (.s .p (.lp ⟨[(9, .d (.int .i64)), (10, .d (.int .i64))], [], [0, 1, 2], [], [], 8018⟩ ⟨[(9, .d (.int .i64))], [], [1, 2], [], [], 8018⟩ true .p)) .p))))) fun _ => by kernel_rfl, by kernel_rfl⟩
def c_110 : Con te := ak_ te [.d (.st 11), .d (.int .i64)] [(.st 11, []), (.int .i64, [])] false fun a => aw_ a.1 a.2.1
theorem ok_110 : OKF 110 c_110 := ⟨af_ ai_ (ae_ ok_68 ag_) Tryz.func110 (by kernel_rfl) (pl := .p) fun _ => by kernel_rfl, by kernel_rfl⟩
def c_53 : Con te := ak_ te [.d (.int .i64)] [(.sl (.int .i64), []), (.bool, [])] true fun a => cR_ a.1
theorem ok_53 : OKF 53 c_53 := ⟨af_ ai_ ag_ Tryz.func53 (by kernel_rfl) (pl := .s .p (.s (.s .p (.s .p (.s .p (.s .p (.s .p (.s .p (.s .p (.j ⟨[(14, .d .bool)], [], [4], [], [], 9⟩ false .p (.s .p (.s .p (.s .p (.s .p (.s .p (.s .p (.s .p (.s .p (.s .p (.s .p (.s .p (.s .p (.s .p (.j ⟨[(36, .d .bool)], [], [4], [], [], 21⟩ false .p (.s .p (.s .p (.s .p (.s .p (.s .p (.s .p (.s .p (.s .p (.s .p (.s .p (.s .p (.j ⟨[(55, .d .bool)], [], [4], [], [], 31⟩ false .p (.s .p (.s .p (.s .p (.s .p (.s .p (.s .p (.s .p (.s .p (.s .p (.s .p (.s .p (.j ⟨[(75, .d .bool)], [], [], [], [], 41⟩ false .p .p)))))))))))))))))))))))))))))))))))))))))))))) .p)) fun _ => by kernel_rfl, by kernel_rfl⟩
def c_174 : Con te := ak_ te [.d .str, .d (.int .i64)] [(.str, []), (.int .i64, []), (.int .i64, [])] false fun a => gG_ a.1 a.2.1
theorem ok_174 : OKF 174 c_174 := ⟨af_ ai_ (ae_ ok_68 ag_) Tryz.func174 (by kernel_rfl) (pl := .p) fun _ => by kernel_rfl, by kernel_rfl⟩
def c_156 : Con te := ak_ te [.d (.st 11)] [(.st 11, []), (.str, [])] false fun a => bI_ a.1
theorem ok_156 : OKF 156 c_156 := ⟨af_ ai_ (ae_ ok_174 ag_) Tryz.func156 (by kernel_rfl) (pl := .p) fun _ => by kernel_rfl, by kernel_rfl⟩
def c_157 : Con te := ak_ te [.d (.st 11)] [(.st 11, []), (.st 0, [])] false fun a => eG_ a.1
theorem ok_157 : OKF 157 c_157 := ⟨af_ ai_ (ae_ ok_110 ag_) Tryz.func157 (by kernel_rfl) (pl := .p) fun _ => by kernel_rfl, by kernel_rfl⟩
def c_131 : Con te := ak_ te [] [(.sl .str, [some 9])] false fun _ => gq_
theorem ok_131 : OKF 131 c_131 := ⟨af_ ai_ ag_ Tryz.func131 (by kernel_rfl) (pl := .p) fun _ => by kernel_rfl, by kernel_rfl⟩
def c_175 : Con te := ak_ te [.d .str] [(.int .i64, []), (.bool, [])] false fun a => e3_ a.1
theorem ok_175 : OKF 175 c_175 := ⟨af_ ai_ (ae_ ok_131 ag_) Tryz.func175 (by kernel_rfl) (pl := .s .p (.s .p (.s (.s .p (.lp ⟨[(5, .d (.int .i64))], [(2, true, .row 9 .str [])], [0, 4], [], [], 6⟩ ⟨[], [], [], [], [], 6⟩ true .p)) .p))) fun _ => by kernel_rfl, by kernel_rfl⟩
def c_176 : Con te := ak_ te [.d (.st 11), .d (.int .i64)] [(.st 11, []), (.str, [])] false fun a => do_ a.1 a.2.1
theorem ok_176 : OKF 176 c_176 := ⟨af_ ai_ ag_ Tryz.func176 (by kernel_rfl) (pl := .s .p (.s .p (.s (.dr [0, 0, 0, 0, 0, 0, 0, 0, 0, 1, 4] [] true [2]) .p))) fun _ => by kernel_rfl, by kernel_rfl⟩
def c_181 : Con te := ak_ te [.d .str] [(.st 12, []), (.bool, [])] false fun a => gr_ a.1
theorem ok_181 : OKF 181 c_181 := ⟨af_ ai_ ag_ Tryz.func181 (by kernel_rfl) (pl := .s .p (.s .p (.s .p (.s (.s .p (.lp ⟨[(5, .d (.int .i64)), (6, .d (.int .i64))], [(3, true, .box 195 (.st 12))], [0, 2, 4], [0], [], 7⟩ ⟨[(5, .d (.int .i64))], [(3, true, .box 195 (.st 12))], [0, 2, 4], [0], [], 7⟩ true (.s .p (.s (.s .p (.s (.dr [0, 0, 0, 0, 0, 0, 0, 0, 0, 0, 0, 0] [] false []) .p)) .p)))) .p)))) fun _ => by kernel_rfl, by kernel_rfl⟩
def c_182 : Con te := ak_ te [.d .str, .d (.int .i64), .d (.int .i64)] [(.int .i64, [])] false fun a => bT_ a.1 a.2.1 a.2.2.1
theorem ok_182 : OKF 182 c_182 := ⟨af_ ai_ ag_ Tryz.func182 (by kernel_rfl) (pl := .s .p (.s .p (.s (.s .p (.lp ⟨[(7, .d (.int .i64)), (8, .d .bool), (9, .d (.int .i64))], [], [0, 1], [], [], 6⟩ ⟨[(7, .d (.int .i64)), (8, .d .bool)], [], [], [], [], 6⟩ false (.s .p (.j ⟨[(7, .d (.int .i64)), (8, .d .bool)], [], [0, 1, 9], [], [], 8⟩ false .p .p)))) .p))) fun _ => by kernel_rfl, by kernel_rfl⟩
def c_177 : Con te := ak_ te [.d .str, .d (.int .i64)] [(.st 1, []), (.int .i64, []), (.int .i64, [])] false fun a => iL_ a.1 a.2.1
theorem ok_177 : OKF 177 c_177 := ⟨af_ ai_ (ae_ ok_164 (ae_ ok_182 (ae_ ok_181 ag_))) Tryz.func177 (by kernel_rfl) (pl := .s .p (.s .p (.s .p (.s (.dr [0, 0, 0, 0, 0, 0, 0, 0, 0, 0, 0, 0] [] false []) (.s .p (.s .p (.s .p (.s .p (.s .p (.s .p (.s (.dr [0, 0, 0, 0, 0, 0, 0, 0, 0, 0, 0, 0, 0, 0, 0, 0, 0, 0, 0, 0, 0, 0, 1, 2] [] false []) .p))))))))))) fun _ => by kernel_rfl, by kernel_rfl⟩
def c_158 : Con te := ak_ te [.d (.st 11), .g (.st 2) [none, none, none, none, none, none, none, none, none, none, some 9, some 33], .d (.int .i64)] [(.st 11, []), (.st 2, [none, none, none, none, none, none, none, none, none, none, some 9, some 33])] false fun a => bG_ a.1 a.2.1 a.2.2.1
theorem ok_158 : OKF 158 c_158 := ⟨af_ ai_ (ae_ ok_177 (ae_ ok_176 (ae_ ok_157 (ae_ ok_110 (ae_ ok_175 (ae_ ok_156 ag_)))))) Tryz.func158 (by kernel_rfl) (pl := .s .p (.s .p (.j ⟨[], [(2, true, .box 132 (.st 11)), (4, true, .cells 38 [.v (.int .i64), .v (.int .i64), .v (.int .i64), .v (.int .i64), .v (.int .i64), .v (.int .i64), .v (.int .i64), .v .str, .v .str, .v .str, .own 11, .own 12, .v (.int .i64), .v (.int .i64), .v (.int .i64), .v (.int .i64), .v (.int .i64), .v (.int .i64), .v .str, .v (.int .i64), .v (.int .i64), .v .str, .v (.int .i64), .v (.int .i64), .v (.int .i64), .v (.int .i64), .v (.int .i64), .v (.int .i64), .v (.int .i64), .v (.int .i64), .v (.int .i64), .v .str, .v .str, .v .str, .v .str, .v (.int .i64), .v (.int .i64), .v (.int .i64), .v .str]), (11, false, .row 9 .str []), (12, false, .row 33 (.st 0) [])], [3, 4, 6, 7], [6, 8], [], 13⟩ true (.s .p (.s .p (.s (.s .p (.s .p (.s .p (.s (.dr [0, 0, 0, 0, 0, 0, 0, 0, 0, 0, 1, 1] [] true [6, 8]) .p)))) (.s .p (.s (.s .p (.s .p (.lp ⟨[(13, .d (.int .i64))], [(2, true, .box 132 (.st 11)), (4, true, .cells 38 [.v (.int .i64), .v (.int .i64), .v (.int .i64), .v (.int .i64), .v (.int .i64), .v (.int .i64), .v (.int .i64), .v .str, .v .str, .v .str, .own 25, .own 1, .v (.int .i64), .v (.int .i64), .v (.int .i64), .v (.int .i64), .v (.int .i64), .v (.int .i64), .v .str, .v (.int .i64), .v (.int .i64), .v .str, .v (.int .i64), .v (.int .i64), .v (.int .i64), .v (.int .i64), .v (.int .i64), .v (.int .i64), .v (.int .i64), .v (.int .i64), .v (.int .i64), .v .str, .v .str, .v .str, .v .str, .v (.int .i64), .v (.int .i64), .v (.int .i64), .v .str]), (25, false, .row 9 .str []), (1, true, .row 33 (.st 0) [])], [3, 4, 6, 7, 8], [6, 8], [], 26⟩ ⟨[], [(2, true, .box 132 (.st 11)), (4, true, .cells 38 [.v (.int .i64), .v (.int .i64), .v (.int .i64), .v (.int .i64), .v (.int .i64), .v (.int .i64), .v (.int .i64), .v .str, .v .str, .v .str, .own 25, .own 1, .v (.int .i64), .v (.int .i64), .v (.int .i64), .v (.int .i64), .v (.int .i64), .v (.int .i64), .v .str, .v (.int .i64), .v (.int .i64), .v .str, .v (.int .i64), .v (.int .i64), .v (.int .i64), .v (.int .i64), .v (.int .i64), .v (.int .i64), .v (.int .i64), .v (.int .i64), .v (.int .i64), .v .str, .v .str, .v .str, .v .str, .v (.int .i64), .v (.int .i64), .v (.int .i64), .v .str]), (25, false, .row 9 .str []), (1, true, .row 33 (.st 0) [])], [3, 4, 6, 7], [6, 8], [], 26⟩ false .p))) (.s .p (.s (.s .p (.s .p (.lp ⟨[(16, .d (.int .i64))], [(2, true, .box 132 (.st 11)), (4, true, .cells 38 [.v (.int .i64), .v (.int .i64), .v (.int .i64), .v (.int .i64), .v (.int .i64), .v (.int .i64), .v (.int .i64), .v .str, .v .str, .v .str, .own 0, .own 27, .v (.int .i64), .v (.int .i64), .v (.int .i64), .v (.int .i64), .v (.int .i64), .v (.int .i64), .v .str, .v (.int .i64), .v (.int .i64), .v .str, .v (.int .i64), .v (.int .i64), .v (.int .i64), .v (.int .i64), .v (.int .i64), .v (.int .i64), .v (.int .i64), .v (.int .i64), .v (.int .i64), .v .str, .v .str, .v .str, .v .str, .v (.int .i64), .v (.int .i64), .v (.int .i64), .v .str]), (0, true, .row 9 .str []), (27, false, .row 33 (.st 0) [])], [3, 4, 6, 7, 8], [6, 8], [], 28⟩ ⟨[], [(2, true, .box 132 (.st 11)), (4, true, .cells 38 [.v (.int .i64), .v (.int .i64), .v (.int .i64), .v (.int .i64), .v (.int .i64), .v (.int .i64), .v (.int .i64), .v .str, .v .str, .v .str, .own 0, .own 27, .v (.int .i64), .v (.int .i64), .v (.int .i64), .v (.int .i64), .v (.int .i64), .v (.int .i64), .v .str, .v (.int .i64), .v (.int .i64), .v .str, .v (.int .i64), .v (.int .i64), .v (.int .i64), .v (.int .i64), .v (.int .i64), .v (.int .i64), .v (.int .i64), .v (.int .i64), .v (.int .i64), .v .str, .v .str, .v .str, .v .str, .v (.int .i64), .v (.int .i64), .v (.int .i64), .v .str]), (0, true, .row 9 .str []), (27, false, .row 33 (.st 0) [])], [3, 4, 6, 7], [6, 8], [], 28⟩ false .p))) (.s .p (.s .p (.s .p (.s (.s .p (.s .p (.s .p (.s .p (.s (.dr [0, 0, 0, 0, 0, 0, 0, 0, 0, 0, 0, 0, 0, 0, 0, 1, 1] [] true [6, 8]) .p))))) .p))))))))))) (.s (.dr [0, 0, 1, 1] [] true [6, 8]) .p)))) fun _ => by kernel_rfl, by kernel_rfl⟩
end
end Go.Proofs.YtolgkhjkdadhiaaGreat
namespace Go.Proofs.YtolgkhjkdadhiaaGreat
open Go.Rt Go.RowKit
noncomputable section
def c_111 : Con te := ak_ te [.d (.st 11), .g (.st 2) [none, none, none, none, none, none, none, none, none, none, some 9, some 33], .d (.int .i64)] [(.st 11, []), (.st 2, [none, none, none, none, none, none, none, none, none, none, some 9, some 33])] false fun a => aq_ a.1 a.2.1 a.2.2.1
theorem ok_111 : OKF 111 c_111 := ⟨af_ ai_ (ae_ ok_158 (ae_ ok_157 (ae_ ok_156 (ae_ ok_110 ag_)))) Tryz.func111 (by kernel_rfl) (pl := .s .p (.j ⟨[], [(2, true, .box 132 (.st 11)), (4, true, .cells 38 [.v (.int .i64), .v (.int .i64), .v (.int .i64), .v (.int .i64), .v (.int .i64), .v (.int .i64), .v (.int .i64), .v .str, .v .str, .v .str, .own 0, .own 1, .v (.int .i64), .v (.int .i64), .v (.int .i64), .v (.int .i64), .v (.int .i64), .v (.int .i64), .v .str, .v (.int .i64), .v (.int .i64), .v .str, .v (.int .i64), .v (.int .i64), .v (.int .i64), .v (.int .i64), .v (.int .i64), .v (.int .i64), .v (.int .i64), .v (.int .i64), .v (.int .i64), .v .str, .v .str, .v .str, .v .str, .v (.int .i64), .v (.int .i64), .v (.int .i64), .v .str]), (0, true, .row 9 .str []), (1, true, .row 33 (.st 0) [])], [3, 4, 6, 7], [6, 8], [], 10⟩ true .p (.s (.dr [0, 0, 1, 1] [] true [6, 8]) .p))) fun _ => by kernel_rfl, by kernel_rfl⟩
def c_69 : Con te := ak_ te [.d .str, .d (.int .i64)] [(.st 2, [none, none, none, none, none, none, none, none, none, none, some 9, some 33]), (.int .i64, []), (.int .i64, [])] false fun a => ej_ a.1 a.2.1
theorem ok_69 : OKF 69 c_69 := ⟨af_ ai_ (ae_ ok_52 (ae_ ok_111 (ae_ ok_53 (ae_ ok_110 (ae_ ok_68 ag_))))) Tryz.func69 (by kernel_rfl) (pl := .s .p (.s .p (.s .p (.s .p (.s .p (.s .p (.s .p (.s .p (.s .p (.s .p (.s .p (.s .p (.s .p (.s (.s .p (.lp ⟨[(17, .d (.int .i64))], [(5029, true, .cells 38 [.v (.int .i64), .v (.int .i64), .v (.int .i64), .v (.int .i64), .v (.int .i64), .v (.int .i64), .v (.int .i64), .v .str, .v .str, .v .str, .own 5074, .own 5075, .v (.int .i64), .v (.int .i64), .v (.int .i64), .v (.int .i64), .v (.int .i64), .v (.int .i64), .v .str, .v (.int .i64), .v (.int .i64), .v .str, .v (.int .i64), .v (.int .i64), .v (.int .i64), .v (.int .i64), .v (.int .i64), .v (.int .i64), .v (.int .i64), .v (.int .i64), .v (.int .i64), .v .str, .v .str, .v .str, .v .str, .v (.int .i64), .v (.int .i64), .v (.int .i64), .v .str]), (5074, false, .row 9 .str []), (5075, false, .row 33 (.st 0) []), (5053, true, .box 132 (.st 11))], [1, 4, 7, 10, 13, 15, 16], [0], [], 5076⟩ ⟨[], [(5029, true, .cells 38 [.v (.int .i64), .v (.int .i64), .v (.int .i64), .v (.int .i64), .v (.int .i64), .v (.int .i64), .v (.int .i64), .v .str, .v .str, .v .str, .own 5074, .own 5075, .v (.int .i64), .v (.int .i64), .v (.int .i64), .v (.int .i64), .v (.int .i64), .v (.int .i64), .v .str, .v (.int .i64), .v (.int .i64), .v .str, .v (.int .i64), .v (.int .i64), .v (.int .i64), .v (.int .i64), .v (.int .i64), .v (.int .i64), .v (.int .i64), .v (.int .i64), .v (.int .i64), .v .str, .v .str, .v .str, .v .str, .v (.int .i64), .v (.int .i64), .v (.int .i64), .v .str]), (5074, false, .row 9 .str []), (5075, false, .row 33 (.st 0) []), (5053, true, .box 132 (.st 11))], [1, 4, 7, 10, 13, 16], [0], [], 5076⟩ false (.s .p (.s (.dr [0, 0, 0, 0, 0, 0, 2, 4, 4, 4, 2, 2] [] false []) .p)))) .p)))))))))))))) fun _ => by kernel_rfl, by kernel_rfl⟩
def c_37 : Con te := ak_ te [.d .str, .d (.int .i64)] [(.sl (.st 2), [some 38]), (.str, []), (.int .i64, [])] true fun a => fs_ a.1 a.2.1
theorem ok_37 : OKF 37 c_37 := ⟨af_ ai_ (ae_ ok_69 (ae_ ok_68 ag_)) Tryz.func37 (by kernel_rfl) (pl := .s .p (.s .p (.j ⟨[(7, .d (.int .i64))], [], [0], [], [], 5⟩ false .p (.s .p (.s .p (.s (.lp ⟨[(8, .one (.own 8)), (9, .d .str)], [(8, false, .row 38 (.st 2) [])], [7], [], [], 9⟩ ⟨[(8, .one (.own 8)), (9, .d .str)], [(8, false, .row 38 (.st 2) [])], [], [], [], 9⟩ true .p) .p)))))) fun _ => by kernel_rfl, by kernel_rfl⟩
def c_13 : Con te := ak_ te [.d (.st 4)] [(.bool, [])] false fun a => ft_ a.1
theorem ok_13 : OKF 13 c_13 := ⟨af_ ai_ (ae_ ok_37 (ae_ ok_36 ag_)) Tryz.func13 (by kernel_rfl) (pl := .s .p (.s .p (.s (.s .p (.lp ⟨[(3, .d (.int .i64))], [], [1], [0], [], 24011⟩ ⟨[], [], [1], [0], [], 24011⟩ true (.s .p (.s (.s (.dr [0, 0, 0, 0, 0, 0, 0, 0, 0, 0, 0, 0, 0, 0, 0, 0, 0, 0, 0, 0, 0, 0, 0, 0, 0, 0, 0, 0, 0, 0, 0, 0] [] false []) .p) .p)))) .p))) fun _ => by kernel_rfl, by kernel_rfl⟩
def c_38 : Con te := ak_ te [.d (.st 2), .d (.st 2)] [(.bool, [])] false fun a => ht_ a.1 a.2.1
theorem ok_38 : OKF 38 c_38 := ⟨af_ ai_ ag_ Tryz.func38 (by kernel_rfl) (pl := .s .p (.s .p (.s (.s .p (.lp ⟨[(28, .d (.int .i64))], [], [2, 3, 27], [0, 2], [], 8017⟩ ⟨[], [], [2, 3], [0, 2], [], 8017⟩ true (.s .p (.s .p (.s (.s .p (.s (.dr [0, 0, 0, 0, 0, 0, 0, 0, 0, 0, 0] [] false []) .p)) .p))))) (.s (.s .p (.lp ⟨[(46, .d (.int .i64))], [], [2, 3, 45], [0, 2], [], 8021⟩ ⟨[], [], [2, 3], [0, 2], [], 8021⟩ true (.s .p (.s .p (.s (.s .p (.s (.dr [0, 0, 0, 0, 0, 0, 0, 0, 0, 0, 0] [] false []) .p)) .p))))) .p)))) fun _ => by kernel_rfl, by kernel_rfl⟩
def c_14 : Con te := ak_ te [.d (.st 4), .d (.st 4)] [(.bool, [])] false fun a => jq_ a.1 a.2.1
theorem ok_14 : OKF 14 c_14 := ⟨af_ ai_ (ae_ ok_38 ag_) Tryz.func14 (by kernel_rfl) (pl := .s .p (.s .p (.s (.s .p (.lp ⟨[(5, .d (.int .i64))], [], [2, 3], [0, 2], [], 34016⟩ ⟨[], [], [2, 3], [0, 2], [], 34016⟩ true (.s .p (.s (.s (.dr [0, 0, 0, 0, 0, 0, 0, 0, 0, 0, 0] [] false []) .p) .p)))) (.s (.s .p (.lp ⟨[(6, .d (.int .i64))], [], [2, 3], [0, 2], [], 34017⟩ ⟨[], [], [], [], [], 34017⟩ true (.s .p (.s (.s (.dr [0, 0, 0, 0, 0, 0, 0, 0, 0, 0, 0, 0, 0, 0, 0, 0, 0, 0, 0, 0, 0, 0, 0, 0, 0, 0, 0, 0, 0] [] false []) .p) .p)))) .p)))) fun _ => by kernel_rfl, by kernel_rfl⟩
def c_56 : Con te := ak_ te [.d (.int .i64), .d (.int .i64)] [(.str, []), (.int .i64, [])] false fun a => hb_ a.1 a.2.1
theorem ok_56 : OKF 56 c_56 := ⟨af_ ai_ (ae_ ok_97 ag_) Tryz.func56 (by kernel_rfl) (pl := .s .p (.s .p (.s .p (.s .p (.s (.s .p (.lp ⟨[(6, .d .str), (7, .d (.int .i64)), (8, .d (.int .i64))], [], [1], [], [], 9⟩ ⟨[(6, .d .str), (7, .d (.int .i64))], [], [], [], [], 9⟩ false .p)) .p))))) fun _ => by kernel_rfl, by kernel_rfl⟩
def c_54 : Con te := ak_ te [.d (.st 13), .d (.int .i64), .d (.int .i64)] [(.st 13, [])] false fun a => bj_ a.1 a.2.1 a.2.2.1
theorem ok_54 : OKF 54 c_54 := ⟨af_ ai_ (ae_ ok_56 ag_) Tryz.func54 (by kernel_rfl) (pl := .s .p (.s .p (.j ⟨[], [(0, true, .box 84 (.st 13))], [3, 6], [2], [], 12⟩ false .p .p))) fun _ => by kernel_rfl, by kernel_rfl⟩
def c_130 : Con te := ak_ te [.d .str] [(.str, []), (.int .i64, [])] false fun a => i3_ a.1
theorem ok_130 : OKF 130 c_130 := ⟨af_ ai_ (ae_ ok_56 ag_) Tryz.func130 (by kernel_rfl) (pl := .p) fun _ => by kernel_rfl, by kernel_rfl⟩
def c_93 : Con te := ak_ te [.d (.st 13), .d .str] [(.st 13, [])] false fun a => dg_ a.1 a.2.1
theorem ok_93 : OKF 93 c_93 := ⟨af_ ai_ (ae_ ok_130 ag_) Tryz.func93 (by kernel_rfl) (pl := .s .p (.s .p (.j ⟨[], [(0, true, .box 84 (.st 13))], [2, 4], [2], [], 11⟩ false .p .p))) fun _ => by kernel_rfl, by kernel_rfl⟩
def c_94 : Con te := ak_ te [.d (.st 13), .d (.st 0)] [(.st 13, [])] false fun a => iM_ a.1 a.2.1
theorem ok_94 : OKF 94 c_94 := ⟨af_ ai_ (ae_ ok_54 ag_) Tryz.func94 (by kernel_rfl) (pl := .s .p (.s (.dr [0, 0, 0, 0, 0, 0, 0, 0, 0, 0, 2] [] false []) .p)) fun _ => by kernel_rfl, by kernel_rfl⟩
def c_95 : Con te := ak_ te [.d (.int .i64)] [(.str, [])] false fun a => jr_ a.1
theorem ok_95 : OKF 95 c_95 := ⟨af_ ai_ (ae_ ok_131 ag_) Tryz.func95 (by kernel_rfl) (pl := .p) fun _ => by kernel_rfl, by kernel_rfl⟩
def c_165 : Con te := ak_ te [.d (.int .i64), .d (.int .i64)] [(.str, [])] false fun a => bh_ a.1 a.2.1
theorem ok_165 : OKF 165 c_165 := ⟨af_ ai_ ag_ Tryz.func165 (by kernel_rfl) (pl := .s .p (.s .p (.s (.s .p (.lp ⟨[(5, .d .str), (6, .d (.int .i64))], [], [0, 1], [], [], 3⟩ ⟨[(5, .d .str)], [], [], [], [], 3⟩ false .p)) .p))) fun _ => by kernel_rfl, by kernel_rfl⟩
def c_166 : Con te := ak_ te [.d .str] [(.str, [])] false fun a => dy_ a.1
theorem ok_166 : OKF 166 c_166 := ⟨af_ ai_ (ae_ ok_165 ag_) Tryz.func166 (by kernel_rfl) (pl := .p) fun _ => by kernel_rfl, by kernel_rfl⟩
def c_132 : Con te := ak_ te [.d (.st 1)] [(.str, []), (.int .i64, [])] false fun a => kv_ a.1
theorem ok_132 : OKF 132 c_132 := ⟨af_ ai_ (ae_ ok_166 (ae_ ok_165 (ae_ ok_164 ag_))) Tryz.func132 (by kernel_rfl) (pl := .s .p (.s .p (.s (.dr [0, 0, 0, 0, 0, 0, 0, 0, 0, 0, 0, 0, 0, 0, 0] [] false []) (.s (.dr [0, 0, 0, 0, 0, 0, 0, 0, 0, 0, 0, 0, 0, 0, 0, 0, 0, 0, 0, 0, 0, 0, 0, 0, 0, 0] [] false []) (.s (.dr [0, 0, 0, 0, 0, 0, 0, 0, 0, 0, 0, 0, 0, 0, 0, 0, 0, 0] [] false []) .p))))) fun _ => by kernel_rfl, by kernel_rfl⟩
def c_96 : Con te := ak_ te [.d (.st 13), .d (.st 2), .d (.int .i64)] [(.st 13, [])] false fun a => dh_ a.1 a.2.1 a.2.2.1
theorem ok_96 : OKF 96 c_96 := ⟨af_ ai_ (ae_ ok_132 (ae_ ok_94 (ae_ ok_93 (ae_ ok_54 ag_)))) Tryz.func96 (by kernel_rfl) (pl := .s .p (.j ⟨[], [(0, true, .box 84 (.st 13))], [3, 6], [4], [], 6⟩ false (.s .p (.s .p (.s (.s .p (.s .p (.lp ⟨[(7, .d (.int .i64))], [(0, true, .box 84 (.st 13))], [3, 4, 6], [2, 4], [], 17⟩ ⟨[], [(0, true, .box 84 (.st 13))], [3, 6], [4], [], 17⟩ false (.s .p (.s (.dr [0, 0, 0, 0, 0, 0, 0, 2] [] false []) .p))))) (.s .p (.s (.s .p (.s .p (.lp ⟨[(8, .d (.int .i64))], [(0, true, .box 84 (.st 13))], [3, 4, 6], [2, 4], [], 19⟩ ⟨[], [(0, true, .box 84 (.st 13))], [3, 6], [4], [], 19⟩ false (.s .p (.s (.dr [0, 0, 0, 0, 0, 0, 0, 2] [] false []) .p))))) (.s .p (.s .p (.s .p (.s (.s .p (.j ⟨[], [(0, true, .box 84 (.st 13))], [3, 6, 9], [4], [], 23⟩ false .p .p)) .p))))))))) .p)) fun _ => by kernel_rfl, by kernel_rfl⟩
def c_55 : Con te := ak_ te [.d (.st 13), .d (.st 2), .d (.int .i64)] [(.st 13, [])] false fun a => iA_ a.1 a.2.1 a.2.2.1
theorem ok_55 : OKF 55 c_55 := ⟨af_ ai_ (ae_ ok_96 (ae_ ok_95 (ae_ ok_94 (ae_ ok_93 (ae_ ok_54 ag_))))) Tryz.func55 (by kernel_rfl) (pl := .s .p (.s (.s .p (.s .p (.s .p (.s .p (.s .p (.s .p (.s .p (.s .p (.s .p (.s .p (.s .p (.s .p (.s .p (.s .p (.s .p (.s .p (.s .p (.s .p (.s (.s (.dr [0, 0, 0, 0, 0, 2] [] false []) .p) .p))))))))))))))))))) .p)) fun _ => by kernel_rfl, by kernel_rfl⟩
def c_25 : Con te := ak_ te [.d (.st 2)] [(.str, []), (.int .i64, [])] false fun a => dp_ a.1
theorem ok_25 : OKF 25 c_25 := ⟨af_ ai_ (ae_ ok_56 (ae_ ok_55 (ae_ ok_54 (ae_ ok_53 (ae_ ok_52 ag_))))) Tryz.func25 (by kernel_rfl) (pl := .s .p (.s .p (.s .p (.s (.dr [0, 0, 0, 0, 0, 0, 0, 1, 2] [] false []) (.s (.s .p (.lp ⟨[(8, .d (.int .i64))], [(24, true, .box 84 (.st 13))], [1, 5, 7], [0], [], 29⟩ ⟨[], [(24, true, .box 84 (.st 13))], [7], [], [], 29⟩ false (.s .p (.s (.dr [0, 0, 0, 0, 0, 0, 0, 2] [] false []) .p)))) (.s (.s .p (.s (.s (.dr [0, 0, 0, 0] [] false []) .p) .p)) .p)))))) fun _ => by kernel_rfl, by kernel_rfl⟩
def c_24 : Con te := ak_ te [.d (.sl (.st 2)), .d (.sl (.st 2))] [(.bool, [])] false fun a => gc_ a.1 a.2.1
theorem ok_24 : OKF 24 c_24 := ⟨af_ ai_ (ae_ ok_38 ag_) Tryz.func24 (by kernel_rfl) (pl := .s .p (.s .p (.s (.s .p (.lp ⟨[(5, .d (.int .i64))], [], [0, 1], [], [], 7⟩ ⟨[], [], [], [], [], 7⟩ true (.s .p (.s (.s (.dr [0, 0, 0, 0, 0, 0, 0, 0, 0, 0] [] false []) .p) .p)))) .p))) fun _ => by kernel_rfl, by kernel_rfl⟩
def c_7 : Con te := ak_ te [.d (.st 4), .d .str, .d (.int .u16)] [(.bool, [])] false fun a => fH_ a.1 a.2.1 a.2.2.1
theorem ok_7 : OKF 7 c_7 := ⟨af_ ai_ (ae_ ok_24 (ae_ ok_14 (ae_ ok_22 (ae_ ok_11 (ae_ ok_13 (ae_ ok_10 ag_)))))) Tryz.func7 (by kernel_rfl) (pl := .s .p (.s .p (.s .p (.s .p (.s (.df [0, 0, 0, 0, 1, 4, 4, 4, 4, 1, 2, 4, 4] [] 5) (.s (.df [0, 0, 0, 0, 1, 4, 4, 4, 4, 1, 2, 4, 4] [] 5) .p)))))) fun _ => by kernel_rfl, by kernel_rfl⟩
def c_8 : Con te := ak_ te [.d (.st 4), .d (.int .i64), .d (.st 2)] [(.bool, [])] false fun a => e4_ a.1 a.2.1 a.2.2.1
theorem ok_8 : OKF 8 c_8 := ⟨af_ ai_ (ae_ ok_26 (ae_ ok_22 (ae_ ok_25 (ae_ ok_20 (ae_ ok_11 (ae_ ok_13 (ae_ ok_17 (ae_ ok_10 ag_)))))))) Tryz.func8 (by kernel_rfl) (pl := .p) fun _ => by kernel_rfl, by kernel_rfl⟩
end
end Go.Proofs.YtolgkhjkdadhiaaGreat
namespace Go
namespace Rt
theorem am_ {n : Int} (h : I64 n) : w64 n = n := by
 unfold w64; rw [IntKind.wrap_i64]; omega
theorem wi64_eq {n : Int} (h : I64 n) : IntKind.i64.wrap n = n := am_ h
theorem wu8 (n : Int) : IntKind.u8.wrap n = n % 256 := IntKind.wrap_u8 n
theorem wu64 (n : Int) : IntKind.u64.wrap n = n % 18446744073709551616 := by simp [IntKind.wrap, IntKind.bits, IntKind.signed]
theorem hc_ {a : Nat} (ha : a < 2 ^ 64) : (BitVec.ofInt 64 (a : Int)).toNat = a := by
 rw [BitVec.toNat_ofInt]
 have : ((a : Int) % ((2 ^ 64 : Nat) : Int)) = ((a % 2 ^ 64 : Nat) : Int) := by omega
 rw [this]
 simp
 omega
theorem andI_nat {a b : Nat} (ha : a < 2 ^ 63) (hb : b < 2 ^ 63) : andI .i64 a b = ((a &&& b : Nat) : Int) := by
 have h1 : a &&& b < 2 ^ 63 := Nat.and_lt_two_pow a hb
 show IntKind.i64.wrap (((BitVec.ofInt 64 (a : Int) &&& BitVec.ofInt 64 (b : Int)).toNat : Nat) : Int) = _
 rw [BitVec.toNat_and, hc_ (by omega), hc_ (by omega)]
 exact wi64_eq ⟨by omega, by omega⟩
theorem orI_u64 {a b : Nat} (ha : a < 2 ^ 64) (hb : b < 2 ^ 64) : orI .u64 a b = ((a ||| b : Nat) : Int) := by
 have h1 : a ||| b < 2 ^ 64 := Nat.or_lt_two_pow ha hb
 show IntKind.u64.wrap (((BitVec.ofInt 64 (a : Int) ||| BitVec.ofInt 64 (b : Int)).toNat : Nat) : Int) = _
 rw [BitVec.toNat_or, hc_ ha, hc_ hb, wu64]
 omega
theorem andNotI_nat {a b : Nat} (ha : a < 2 ^ 63) (hb : b < 2 ^ 63) : eA_ .i64 a b = ((a &&& (2 ^ 64 - 1 - b) : Nat) : Int) := by
 have h1 : a &&& (2 ^ 64 - 1 - b) < 2 ^ 63 := Nat.lt_of_le_of_lt Nat.and_le_left ha
 show IntKind.i64.wrap (((BitVec.ofInt 64 (a : Int) &&& ~~~(BitVec.ofInt 64 (b : Int))).toNat : Nat) : Int) = _
 rw [BitVec.toNat_and, BitVec.toNat_not, hc_ (by omega), hc_ (by omega)]
 exact wi64_eq ⟨by omega, by omega⟩
theorem andNot_zero {a b : Nat} (ha : a < 2 ^ 63) (hb : b < 2 ^ 63) : (eA_ .i64 a b == 0) = (andI .i64 a b == a) := by
 rw [andNotI_nat ha hb, andI_nat ha hb]
 rw [Bool.eq_iff_iff]
 simp only [beq_iff_eq]
 constructor
 ·intro h
  have h' : a &&& (2 ^ 64 - 1 - b) = 0 := by omega
  have : a &&& b = a := by
   apply Nat.eq_of_testBit_eq
   intro i
   have hi := congrArg (fun n => n.testBit i) h'
   simp only [Nat.testBit_and, Nat.zero_testBit] at hi ⊢
   by_cases hi64 : i < 64
   ·rw [show 2 ^ 64 - 1 - b = 2 ^ 64 - (b + 1) by omega, Nat.testBit_two_pow_sub_succ (by omega)] at hi
    simp only [hi64, decide_true, Bool.true_and] at hi
    cases h1 : a.testBit i <;> cases h2 : b.testBit i <;> simp_all
   ·have : a.testBit i = false := Nat.testBit_lt_two_pow (Nat.lt_of_lt_of_le ha (Nat.pow_le_pow_right (by omega) (by omega)))
    simp [this]
  omega
 ·intro h
  have h' : a &&& b = a := by omega
  have : a &&& (2 ^ 64 - 1 - b) = 0 := by
   apply Nat.eq_of_testBit_eq
   intro i
   have hi := congrArg (fun n => n.testBit i) h'
   simp only [Nat.testBit_and, Nat.zero_testBit] at hi ⊢
   by_cases hi64 : i < 64
   ·rw [show 2 ^ 64 - 1 - b = 2 ^ 64 - (b + 1) by omega, Nat.testBit_two_pow_sub_succ (by omega)]
    simp only [hi64, decide_true, Bool.true_and]
    cases h1 : a.testBit i <;> cases h2 : b.testBit i <;> simp_all
   ·have : a.testBit i = false := Nat.testBit_lt_two_pow (Nat.lt_of_lt_of_le ha (Nat.pow_le_pow_right (by omega) (by omega)))
    simp [this]
  omega
theorem and_le {a b : Nat} (h : a &&& b = a) : a ≤ b := by
 rw [← h]; exact Nat.and_le_right
theorem aa_ {α β : Type} {x : Option α} {a : α} {f : α → Option β} {r : Option β} (h : x = some a) (hr : f a = r) : x.bind f = r := by subst h; exact hr
theorem ac_ {α : Type} {c : Bool} {A B r : α} (hc : c = true) (h : A = r) : (bif c then A else B) = r := by subst hc; exact h
theorem ab_ {α : Type} {c : Bool} {A B r : α} (hc : c = false) (h : B = r) : (bif c then A else B) = r := by subst hc; exact h
theorem loopF_run {σ β : Type} {body : σ → Option (Step σ β)} (I : Nat → σ → β → Prop)
  (h0 : ∀ s b, I 0 s b → body s = some (.done b))
  (h : ∀ k s b, I (k + 1) s b → body s = some (.done b) ∨ ∃ s', body s = some (.next s') ∧ I k s' b) : ∀ {k n : Nat} {s : σ} {b : β}, I k s b → k < n → an_ body n s = some b
 | 0, n + 1, s, b, hI, _ => by simp only [an_, h0 s b hI]
 | k + 1, n + 1, s, b, hI, hk => by
  simp only [an_]
  rcases h k s b hI with hd | ⟨s', hn, hI'⟩
  ·rw [hd]
  ·rw [hn]; exact loopF_run I h0 h hI' (by omega)
theorem ia_ {σ β : Type} {body : σ → Option (Step σ β)} (n : Nat) (hn : n < BIG) (J : Nat → σ → β → Prop) (h0 : ∀ s b, J n s b → body s = some (.done b))
  (h : ∀ i s b, i < n → J i s b → body s = some (.done b) ∨ ∃ s', body s = some (.next s') ∧ J (i + 1) s' b) {s : σ} {b : β} (hJ : J 0 s b) : an_ body BIG s = some b := by
 refine loopF_run (fun k s b => k ≤ n ∧ J (n - k) s b) (fun s b hI => h0 s b (by simpa using hI.2)) (fun k s b hI => ?_) (k := n) ⟨Nat.le_refl _, by simpa using hJ⟩ hn
 obtain ⟨hk, hI⟩ := hI
 rcases h _ s b (by omega) hI with hd | ⟨s', hs, hI'⟩
 ·exact .inl hd
 ·exact .inr ⟨s', hs, by omega, by rwa [show n - (k + 1) + 1 = n - k by omega] at hI'⟩
theorem fU_ {σ β : Type} {body : σ → Option (Step σ β)} (T : Nat → σ) (n : Nat) (hn : n < BIG) {b : β} (hs : ∀ i, i < n → body (T i) = some (.next (T (i + 1)))) (hd : body (T n) = some (.done b)) : an_ body BIG (T 0) = some b := by
 refine ia_ (J := fun i s b' => s = T i ∧ b' = b) n hn (fun s b' hJ => ?_) (fun i s b' hi hJ => ?_) ⟨rfl, rfl⟩
 ·obtain ⟨rfl, rfl⟩ := hJ
  exact hd
 ·obtain ⟨rfl, rfl⟩ := hJ
  exact .inr ⟨_, hs i hi, rfl, rfl⟩
theorem loop_all {α β : Type} {body : Int → Option (Step Int (Out Unit β))} (xs : List α) (p : α → Bool) (r : β) (hn : xs.length < BIG)
  (hb : ∀ i (h : i < xs.length), body (i : Int) = if p xs[i] then some (.next ((i + 1 : Nat) : Int)) else some (.done (.ret r)))
  (he : body (xs.length : Int) = some (.done (.fall ()))) : an_ body BIG 0 = some (if xs.all p then .fall () else .ret r) := by
 refine ia_ (J := fun i s b => s = (i : Int) ∧ b = if (xs.drop i).all p then .fall () else .ret r) xs.length hn (fun s b hJ => ?_) (fun i s b hi hJ => ?_) (by simp)
 ·obtain ⟨rfl, rfl⟩ := hJ
  rw [he]; simp
 ·obtain ⟨rfl, rfl⟩ := hJ
  rw [hb i hi, List.drop_eq_getElem_cons hi, List.all_cons]
  cases hp : p xs[i] with
  | true => exact .inr ⟨_, rfl, rfl, by simp⟩
  | false => exact .inl (by simp)
theorem dz_ {α : Type} (xs : List α) (i : Nat) : au_ xs (i : Int) = xs[i]? := by
 unfold au_; rw [if_pos (by omega)]; simp
theorem az_ {α : Type} {xs : List α} {i : Nat} (h : i < xs.length) : au_ xs (i : Int) = some xs[i] := by
 rw [dz_, List.getElem?_eq_getElem h]
theorem eu_ {s : Str} {i : Nat} (h : i < s.length) : bV_ s (i : Int) = some (s[i].toNat : Int) := by
 unfold bV_; rw [az_ h]; rfl
theorem c4_ {a b : Str} (h : a.length + b.length ≤ 9223372036854775807) : cat a b = some (a ++ b) := by
 unfold cat; rw [if_pos h]
theorem bm_ {α : Type} {bytes : Nat} {xs ys : List α} (h1 : xs.length + ys.length ≤ 9223372036854775807) (h2 : (xs.length + ys.length) * bytes ≤ 140737488355328) : bF_ bytes xs ys = some (xs ++ ys) := by
 unfold bF_; rw [if_pos ⟨h1, h2⟩]
theorem gd_ {α : Type} {xs : List α} {lo hi : Int} (h0 : 0 ≤ lo) (h1 : lo ≤ hi) (h2 : hi ≤ xs.length) : bO_ xs lo hi = some ((xs.take hi.toNat).drop lo.toNat) := by
 unfold bO_; rw [if_pos ⟨h0, h1, h2⟩]
theorem makeI_eq {α : Type} {bytes : Nat} {z : α} {n : Int} (h0 : 0 ≤ n) (h1 : n ≤ 9223372036854775807) (h2 : bytes * n ≤ 281474976710656) : ik_ bytes z n = some (List.replicate n.toNat z) := by
 unfold ik_; rw [if_pos ⟨h0, h1, h2⟩]
theorem shrI_eq {k : IntKind} {x y : Int} (h : 0 ≤ y) (h2 : y ≤ k.bits) : shrI k x y = some (x.fdiv (2 ^ y.toNat)) := by
 unfold shrI; rw [if_neg (by omega), show min y.toNat k.bits = y.toNat by omega]
def dX_ (n : Int) (i : Nat) : Int := n.fdiv (2 ^ (8 * i)) % 256
def leL (n : Int) (w : Nat) : List Int := (List.range w).map (dX_ n)
def leB (n : Int) (w : Nat) : Str := b8_ (leL n w)
theorem leL_len (n : Int) (w : Nat) : (leL n w).length = w := by simp [leL]
theorem ap_ (n : Int) (w : Nat) : (leB n w).length = w := by simp [leB, b8_, leL_len]
theorem leL_succ (n : Int) (w : Nat) : leL n (w + 1) = leL n w ++ [dX_ n w] := by simp [leL, List.range_succ]
theorem nW_ (n : Int) (w : Nat) : leB n (w + 1) = leB n w ++ b8_ [dX_ n w] := by simp [leB, b8_, leL_succ]
theorem nX_ (n : Int) (i : Nat) (hi : i < 8) : shrI .i64 n (w64 (8 * (i : Int))) = some (n.fdiv (2 ^ (8 * i))) := by
 rw [am_ ⟨by omega, by omega⟩, shrI_eq (by omega) (by show 8 * (i : Int) ≤ (64 : Nat); omega)]
 rw [show (8 * (i : Int)).toNat = 8 * i by omega]
theorem set_mid {α : Type} (A : List α) (k : Nat) (z v : α) : (A ++ List.replicate (k + 1) z).set A.length v = A ++ [v] ++ List.replicate k z := by
 simp [List.replicate_succ]
theorem lO_ (i : Nat) : dX_ (-1) i = 255 := by
 unfold dX_
 have hp : (0 : Int) < 2 ^ (8 * i) := Int.pow_pos (by omega)
 have : (-1 : Int).fdiv (2 ^ (8 * i)) = -1 := by
  rw [Int.fdiv_eq_ediv_of_nonneg _ (by omega)]
  rw [Int.ediv_eq_iff_of_pos hp]
  omega
 rw [this]
 rfl
end Rt
end Go
namespace Go.Proofs.YtolgkhjkdadhiaaGreat
open Go.Rt Go.RowKit
def iN_ (b : UInt8) : Bool := decide (33 ≤ b.toNat) && decide (b.toNat ≤ 126) && (b.toNat != 47)
def cb_ (s : Str) : Bool := decide (1 ≤ s.length) && decide (s.length ≤ 64) && (s != [46]) && (s != [46, 46]) && s.all iN_
theorem path_loop (s : Str) (h : s.length ≤ 9223372036854775807) : an_ (gB_ s) BIG 0 = some (if s.all iN_ then .fall () else .ret false) := by
 have hB : BIG = 18446744073709551616 := rfl
 refine loop_all s iN_ false (by omega) (fun i hi => ?_) ?_
 ·unfold gB_
  rw [eu_ hi]
  have h1 : decide ((i : Int) < (s.length : Int)) = true := by simp; omega
  rw [h1, am_ (n := (i : Int) + 1) ⟨by omega, by omega⟩]
  generalize s[i] = b
  simp only [cond_true, Option.bind_some]
  have e : iN_ b = !(decide ((b.toNat : Int) < 33) || decide ((b.toNat : Int) > 126) || (b.toNat : Int) == 47) := by
   unfold iN_
   rw [Bool.eq_iff_iff]
   simp only [Bool.and_eq_true, decide_eq_true_eq, bne_iff_ne, Bool.not_eq_true', Bool.or_eq_false_iff, decide_eq_false_iff_not, beq_eq_false_iff_ne]
   omega
  rw [e]
  cases h1 : decide ((b.toNat : Int) < 33) <;> cases h2 : decide ((b.toNat : Int) > 126) <;> cases h3 : ((b.toNat : Int) == 47) <;> simp
 ·unfold gB_
  have h1 : decide ((s.length : Int) < (s.length : Int)) = false := by simp
  rw [h1]; rfl
theorem nY_ (s : Str) (h : s.length ≤ 9223372036854775807) : f9_ s = some (cb_ s) := by
 have hB : BIG = 18446744073709551616 := rfl
 unfold f9_ cb_
 rw [path_loop s h]
 simp only [Option.bind_some]
 have e1 : (s == []) = !decide (1 ≤ s.length) := by
  cases s with
  | nil => rfl
  | cons a l => rw [Bool.eq_iff_iff]; simp
 have e2 : decide ((s.length : Int) > 64) = !decide (s.length ≤ 64) := by
  rw [Bool.eq_iff_iff]; simp; omega
 rw [e1, e2]
 simp only [bne]
 cases decide (1 ≤ s.length) <;> cases decide (s.length ≤ 64) <;> cases (s == [46]) <;> cases (s == [46, 46]) <;> cases s.all iN_ <;> simp
theorem put_loop (n : Int) (w : Nat) (hw : w ≤ 8) : an_ (fR_ (List.replicate w (0 : Int)) n) BIG (0, List.replicate w (0 : Int)) = some (leL n w) := by
 have hB : BIG = 18446744073709551616 := rfl
 have h := fU_ (body := fR_ (List.replicate w (0 : Int)) n) (fun i => ((i : Int), leL n i ++ List.replicate (w - i) (0 : Int))) w (by omega) (b := leL n w) (fun i hi => ?_) ?_
 ·simpa [leL] using h
 ·unfold fR_
  have h1 : decide ((i : Int) < ((List.replicate w (0 : Int)).length : Int)) = true := by simp; omega
  simp only [h1, cond_true]
  rw [nX_ n i (by omega)]
  simp only [Option.bind_some]
  have h2 : (leL n i ++ List.replicate (w - i) (0 : Int)).length = w := by simp [leL_len]; omega
  rw [az_ (by omega : i < (leL n i ++ List.replicate (w - i) (0 : Int)).length)]
  simp only [Option.bind_some, Int.toNat_natCast]
  rw [am_ (n := (i : Int) + 1) ⟨by omega, by omega⟩, wu8]
  have h3 := set_mid (leL n i) (w - (i + 1)) (0 : Int) (dX_ n i)
  rw [leL_len, show w - (i + 1) + 1 = w - i by omega] at h3
  rw [leL_succ]
  show some (Step.next ((i : Int) + 1, (leL n i ++ List.replicate (w - i) (0 : Int)).set i (dX_ n i))) = _
  rw [h3]
  rfl
 ·unfold fR_
  have h1 : decide ((w : Int) < ((List.replicate w (0 : Int)).length : Int)) = false := by simp
  simp only [h1, cond_false]
  simp
def bx_ (n : Int) (w : Nat) : Bool := decide (0 ≤ n) && (decide (8 ≤ w) || decide (n < 2 ^ (8 * w)))
theorem i4_ (n : Int) (w : Nat) (h1 : 1 ≤ w) (h8 : w ≤ 8) : ef_ n (w : Int) = some (if bx_ n w then (leB n w, 0) else ([], 5)) := by
 unfold ef_
 refine ab_ (by rw [Bool.or_eq_false_iff]; exact ⟨by simp; omega, by simp; omega⟩) ?_
 refine aa_ (a := !(bx_ n w)) ?_ ?_
 ·unfold bx_
  by_cases h0 : n < 0
  ·refine ac_ (by simpa using h0) ?_
   have : decide (0 ≤ n) = false := by simp; omega
   rw [this]; rfl
  ·refine ab_ (by simpa using h0) ?_
   have h0' : decide (0 ≤ n) = true := by simp; omega
   rw [h0']
   by_cases hlt : w < 8
   ·have e8 : decide (8 ≤ w) = false := by simp; omega
    rw [e8]
    refine aa_ (a := !(decide (n < 2 ^ (8 * w)))) (ac_ (by simp; omega) (aa_ (nX_ n w hlt) ?_)) (by simp)
    have hp : (0 : Int) < 2 ^ (8 * w) := Int.pow_pos (by omega)
    rw [Int.fdiv_eq_ediv_of_nonneg _ (by omega)]
    congr 1
    by_cases hn : n < 2 ^ (8 * w)
    ·rw [Int.ediv_eq_zero_of_lt (by omega) hn]
     simp [hn]
    ·have : 1 ≤ n / 2 ^ (8 * w) := by
      rw [Int.le_ediv_iff_mul_le hp]; omega
     simp [hn]; omega
   ·have e8 : decide (8 ≤ w) = true := by simp; omega
    rw [e8]
    exact aa_ (a := false) (ab_ (by simp; omega) rfl) rfl
 ·cases hf : bx_ n w with
  | false => exact ac_ rfl rfl
  | true =>
   refine ab_ rfl ?_
   refine aa_ (makeI_eq (by omega) (by omega) (by omega)) ?_
   rw [Int.toNat_natCast]
   exact aa_ (put_loop n w h8) rfl
theorem j0_ (n : Int) (w : Nat) (h1 : 1 ≤ w) (h8 : w ≤ 8) (h0 : 0 ≤ n) (hn : w < 8 → n < 2 ^ (8 * w)) : ef_ n (w : Int) = some (leB n w, 0) := by
 rw [i4_ n w h1 h8, if_pos]
 unfold bx_
 rw [Bool.and_eq_true, Bool.or_eq_true]
 refine ⟨by simpa using h0, ?_⟩
 rcases Nat.lt_or_ge w 8 with h | h
 ·exact .inr (by simpa using hn h)
 ·exact .inl (by simpa using h)
def bp_ (s : Str) : Str := leB (s.length : Int) 2 ++ s
theorem b4_ (s : Str) : (bp_ s).length = 2 + s.length := by simp [bp_, ap_]
theorem text_put (s : Str) (h : s.length ≤ 65535) : fe_ s = some (bp_ s, 0) := by
 unfold fe_
 have c : decide ((s.length : Int) > 65535) = false := by simp; omega
 rw [c]
 simp only [cond_false]
 have h2 := j0_ (s.length : Int) 2 (by omega) (by omega) (by omega) (fun _ => by show (s.length : Int) < 2 ^ 16; omega)
 rw [show ((2 : Nat) : Int) = 2 from rfl] at h2
 rw [h2]
 simp only [Option.bind_some]
 rw [c4_ (by rw [ap_]; omega)]
 rfl
def leV : Str → Nat
 | [] => 0
 | b :: r => b.toNat + 256 * leV r
theorem fV_ : ∀ (s : Str), leV s < 2 ^ (8 * s.length)
 | [] => by simp [leV]
 | b :: r => by
  have h := fV_ r
  have hb := b.toNat_lt
  simp only [leV, List.length_cons]
  rw [show 8 * (r.length + 1) = 8 * r.length + 8 by omega, Nat.pow_add]
  omega
def win (s : Str) (at_ w : Nat) : Str := (s.drop at_).take w
theorem by_ {s : Str} {at_ w : Nat} (h : at_ + w ≤ s.length) : (win s at_ w).length = w := by simp [win]; omega
theorem lP_ {s : Str} {at_ w j : Nat} (h : at_ + w ≤ s.length) (hj : j < w) : (win s at_ w).drop (w - (j + 1)) = s[at_ + (w - 1 - j)]'(by omega) :: (win s at_ w).drop (w - j) := by
 have hl := by_ h
 rw [List.drop_eq_getElem_cons (by omega : w - (j + 1) < (win s at_ w).length)]
 congr 1
 ·simp only [win, List.getElem_take, List.getElem_drop]
  congr 1
  omega
 ·congr 1
  omega
theorem or_byte (a b : Nat) (hb : b < 256) : (a * 256) ||| b = a * 256 + b := by
 have := Nat.shiftLeft_add_eq_or_of_lt (i := 8) (b := b) (by omega) a
 rw [Nat.shiftLeft_eq] at this
 exact this.symm
theorem get_loop (s : Str) (at_ w : Nat) (h1 : 1 ≤ w) (h8 : w ≤ 8) (h : at_ + w ≤ s.length) (hs : s.length ≤ 9223372036854775807) : an_ (fS_ s (at_ : Int)) BIG (0, w64 ((w : Int) - 1)) = some (leV (win s at_ w) : Int) := by
 have hB : BIG = 18446744073709551616 := rfl
 have hw := fU_ (body := fS_ s (at_ : Int)) (fun j => (((leV ((win s at_ w).drop (w - j)) : Nat) : Int), (w : Int) - 1 - (j : Int))) w (by omega) (b := (leV (win s at_ w) : Int)) (fun j hj => ?_) ?_
 ·have e : (win s at_ w).drop (w - 0) = [] := List.drop_eq_nil_of_le (by rw [by_ h]; omega)
  simp only [e, leV] at hw
  rw [am_ ⟨by omega, by omega⟩]
  simpa using hw
 ·unfold fS_
  have hlt := fV_ ((win s at_ w).drop (w - j))
  have hdl : ((win s at_ w).drop (w - j)).length = j := by rw [List.length_drop, by_ h]; omega
  rw [hdl] at hlt
  have hpw : 2 ^ (8 * j) ≤ 2 ^ 56 := Nat.pow_le_pow_right (by omega) (by omega)
  refine ac_ (by simp; omega) ?_
  have ei : w64 ((at_ : Int) + ((w : Int) - 1 - (j : Int))) = ((at_ + (w - 1 - j) : Nat) : Int) := by
   rw [am_ ⟨by omega, by omega⟩]; omega
  show Option.bind (bV_ s (w64 ((at_ : Int) + ((w : Int) - 1 - (j : Int))))) _ = _
  rw [ei]
  refine aa_ (eu_ (by omega)) ?_
  rw [lP_ h hj]
  simp only [leV]
  generalize s[at_ + (w - 1 - j)]'(by omega) = b
  have hb := b.toNat_lt
  generalize leV ((win s at_ w).drop (w - j)) = v at hlt ⊢
  show some (Step.next (orI .u64 (IntKind.u64.wrap ((v : Int) * 2 ^ 8)) (IntKind.u64.wrap (b.toNat : Int)), w64 ((w : Int) - 1 - (j : Int) - 1))) = _
  have e1 : IntKind.u64.wrap ((v : Int) * 2 ^ 8) = ((v * 256 : Nat) : Int) := by rw [wu64]; omega
  have e2 : IntKind.u64.wrap (b.toNat : Int) = (b.toNat : Int) := by rw [wu64]; omega
  rw [e1, e2, orI_u64 (by omega) (by omega), or_byte _ _ hb, am_ ⟨by omega, by omega⟩]
  congr 3
  ·omega
  ·omega
 ·unfold fS_
  refine ab_ (by simp; omega) ?_
  simp
theorem fW_ (s : Str) (at_ w : Nat) (h1 : 1 ≤ w) (h8 : w ≤ 8) (h : at_ ≤ s.length) (hs : s.length ≤ 9223372036854775807) :
  cU_ s (at_ : Int) (w : Int) = some (if s.length - at_ < w then (0, 0, 3) else if leV (win s at_ w) > 9223372036854775807 then (0, 0, 5) else ((leV (win s at_ w) : Int), ((at_ + w : Nat) : Int), 0)) := by
 unfold cU_
 refine ab_ (by simp; omega) ?_
 have el : w64 ((s.length : Int) - (at_ : Int)) = ((s.length - at_ : Nat) : Int) := by rw [am_ ⟨by omega, by omega⟩]; omega
 rw [el]
 by_cases hlt : s.length - at_ < w
 ·rw [if_pos hlt]
  exact ac_ (by simp; omega) rfl
 ·rw [if_neg hlt]
  refine ab_ (by simp; omega) ?_
  refine aa_ (get_loop s at_ w h1 h8 (by omega) hs) ?_
  by_cases hv : leV (win s at_ w) > 9223372036854775807
  ·rw [if_pos hv]
   exact ac_ (by simp; omega) rfl
  ·rw [if_neg hv]
   refine ab_ (by simp; omega) ?_
   rw [am_ (n := (leV (win s at_ w) : Int)) ⟨by omega, by omega⟩, am_ (n := (at_ : Int) + (w : Int)) ⟨by omega, by omega⟩]
   rfl
theorem db_ (s : Str) (at_ w : Nat) (h : at_ + w ≤ s.length) (hs : s.length ≤ 9223372036854775807) : bO_ s (at_ : Int) (w64 ((at_ : Int) + (w : Int))) = some (win s at_ w) := by
 rw [am_ ⟨by omega, by omega⟩, gd_ (by omega) (by omega) (by omega)]
 congr 1
 simp only [win, Int.toNat_natCast]
 rw [show ((at_ : Int) + (w : Int)).toNat = at_ + w by omega, List.drop_take, show at_ + w - at_ = w by omega]
theorem win_whole (s : Str) : win s 0 s.length = s := by simp [win]
def aU_ (s : Str) (a : Nat) : Option (Str × Nat) :=
 if s.length < a + 2 then none else if s.length < a + 2 + leV (win s a 2) then none else some (win s (a + 2) (leV (win s a 2)), a + 2 + leV (win s a 2))
theorem cC_ {s t : Str} {a p : Nat} (h : aU_ s a = some (t, p)) : p ≤ s.length ∧ t.length ≤ s.length ∧ a + 2 ≤ p := by
 unfold aU_ at h
 split at h
 ·cases h
 ·split at h
  ·cases h
  ·rename_i h1 h2
   simp only [Option.some.injEq, Prod.mk.injEq] at h
   obtain ⟨rfl, rfl⟩ := h
   refine ⟨by omega, ?_, by omega⟩
   rw [by_ (by omega)]; omega
theorem two_bytes (s : Str) (a : Nat) (h : a + 2 ≤ s.length) : leV (win s a 2) = (s[a]'(by omega)).toNat + 256 * (s[a + 1]'(by omega)).toNat := by
 have e : win s a 2 = [s[a]'(by omega), s[a + 1]'(by omega)] := by
  unfold win
  rw [List.drop_eq_getElem_cons (by omega), List.drop_eq_getElem_cons (by omega)]
  rfl
 rw [e]
 simp [leV]
theorem fu_ (s : Str) (a : Nat) (h : a + 2 ≤ s.length) : leV (win s a 2) < 65536 := by
 have := fV_ (win s a 2)
 rw [by_ h] at this
 exact this
theorem lQ_ (s : Str) (a : Nat) (h : a ≤ s.length) (hs : s.length ≤ 1000000) : ff_ s (a : Int) = some (match aU_ s a with | none => ([], 0, 3) | some (t, p) => (t, (p : Int), 0)) := by
 unfold ff_
 have hg := fW_ s a 2 (by omega) (by omega) h (by omega)
 rw [show ((2 : Nat) : Int) = 2 from rfl] at hg
 unfold aU_
 by_cases h2 : s.length < a + 2
 ·rw [if_pos (by omega)] at hg
  rw [if_pos h2]
  refine aa_ hg ?_
  exact ac_ rfl rfl
 ·have hv := fu_ s a (by omega)
  rw [if_neg (by omega), if_neg (by omega)] at hg
  rw [if_neg h2]
  refine aa_ hg ?_
  refine ab_ rfl ?_
  have ew : w64 ((s.length : Int) - ((a + 2 : Nat) : Int)) = ((s.length - (a + 2) : Nat) : Int) := by rw [am_ ⟨by omega, by omega⟩]; omega
  have ex : w64 (((a + 2 : Nat) : Int) + (leV (win s a 2) : Int)) = ((a + 2 + leV (win s a 2) : Nat) : Int) := by rw [am_ ⟨by omega, by omega⟩]; omega
  by_cases h3 : s.length < a + 2 + leV (win s a 2)
  ·rw [if_pos h3]
   refine ac_ ?_ rfl
   show decide (w64 ((s.length : Int) - ((a + 2 : Nat) : Int)) < (leV (win s a 2) : Int)) = true
   rw [ew]; simp only [decide_eq_true_eq]; omega
  ·rw [if_neg h3]
   refine ab_ ?_ ?_
   ·show decide (w64 ((s.length : Int) - ((a + 2 : Nat) : Int)) < (leV (win s a 2) : Int)) = false
    rw [ew]; simp only [decide_eq_false_iff_not]; omega
   refine aa_ (db_ s (a + 2) (leV (win s a 2)) (by omega) (by omega)) ?_
   show some (_, w64 (((a + 2 : Nat) : Int) + (leV (win s a 2) : Int)), (0 : Int)) = _
   rw [ex]
theorem ib_ : ∀ (w : Nat) (n : Nat), n < 2 ^ (8 * w) → leV (leB (n : Int) w) = n := by
 have key : ∀ (l : Str) (b : UInt8), leV (l ++ [b]) = leV l + 2 ^ (8 * l.length) * b.toNat := by
  intro l
  induction l with
  | nil => intro b; simp [leV]
  | cons a l ih =>
   intro b
   simp only [List.cons_append, leV, ih, List.length_cons]
   rw [show 8 * (l.length + 1) = 8 * l.length + 8 by omega, Nat.pow_add, Nat.mul_add]
   have : 256 * (2 ^ (8 * l.length) * b.toNat) = 2 ^ (8 * l.length) * 2 ^ 8 * b.toNat := by
    rw [show (2 : Nat) ^ 8 = 256 from rfl, Nat.mul_comm (2 ^ (8 * l.length)) 256, Nat.mul_assoc]
   omega
 have gen : ∀ (w n : Nat), leV (leB (n : Int) w) = n % 2 ^ (8 * w) := by
  intro w
  induction w with
  | zero => intro n; simp [leB, leL, b8_, leV, Nat.mod_one]
  | succ w ih =>
   intro n
   have hb : (dX_ (n : Int) w).toNat = n / 2 ^ (8 * w) % 256 := by
    unfold dX_
    have hp : ((2 : Int) ^ (8 * w)) = ((2 ^ (8 * w) : Nat) : Int) := by simp
    rw [hp, Int.fdiv_eq_ediv_of_nonneg _ (Int.natCast_nonneg _)]
    have : ((n : Int) / ((2 ^ (8 * w) : Nat) : Int)) = ((n / 2 ^ (8 * w) : Nat) : Int) := rfl
    rw [this]
    generalize n / 2 ^ (8 * w) = q
    omega
   rw [nW_, show b8_ [dX_ (n : Int) w] = [UInt8.ofNat (dX_ (n : Int) w).toNat] from rfl, key, ih, ap_, hb]
   have h8 : (UInt8.ofNat (n / 2 ^ (8 * w) % 256)).toNat = n / 2 ^ (8 * w) % 256 := by simp
   rw [h8, show 8 * (w + 1) = 8 * w + 8 by omega, Nat.pow_add, Nat.mod_mul]
 intro w n hn
 rw [gen, Nat.mod_eq_of_lt hn]
theorem na_ : ∀ (s : Str), leB (leV s : Int) s.length = s := by
 have inj : ∀ (s t : Str), s.length = t.length → leV s = leV t → s = t := by
  intro s
  induction s with
  | nil => intro t h _; cases t with | nil => rfl | cons _ _ => simp at h
  | cons b s ih =>
   intro t h hv
   cases t with
   | nil => simp at h
   | cons c t =>
    simp only [leV] at hv
    have hb := b.toNat_lt
    have hc := c.toNat_lt
    have h1 : b.toNat = c.toNat := by omega
    have h2 : leV s = leV t := by omega
    rw [UInt8.toNat_inj.1 h1, ih t (by simpa using h) h2]
 intro s
 exact inj _ _ (ap_ _ _) (ib_ _ _ (fV_ s))
end Go.Proofs.YtolgkhjkdadhiaaGreat
namespace Go.Proofs.YtolgkhjkdadhiaaGreat
open Go.Rt Go.RowKit
def api_Qid.ok (d : api_Qid) : Prop := InK .i64 d.Type_ ∧ InK .i64 d.Vers_ ∧ InK .i64 d.Path_
def api_Dir.ok (d : api_Dir) : Prop := InK .i64 d.Type_ ∧ InK .i64 d.Dev_ ∧ d.Qid_.ok ∧ InK .i64 d.Mode_ ∧ InK .i64 d.Atime_ ∧ InK .i64 d.Mtime_ ∧ InK .i64 d.Length_ ∧ d.Name_.length ≤ 9223372036854775807 ∧ d.Uid_.length ≤ 9223372036854775807 ∧ d.Gid_.length ≤ 9223372036854775807 ∧ d.Muid_.length ≤ 9223372036854775807
theorem loop_all2 {α β γ : Type} {body : Int × γ → Option (Step (Int × γ) (Out Unit β))} (c : γ) (xs : List α) (p : α → Bool) (r : β) (hn : xs.length < BIG)
  (hb : ∀ i (h : i < xs.length), body ((i : Int), c) = if p xs[i] then some (.next (((i + 1 : Nat) : Int), c)) else some (.done (.ret r)))
  (he : body ((xs.length : Int), c) = some (.done (.fall ()))) : an_ body BIG (0, c) = some (if xs.all p then .fall () else .ret r) := by
 refine ia_ (J := fun i s b => s = ((i : Int), c) ∧ b = if (xs.drop i).all p then .fall () else .ret r) xs.length hn (fun s b hJ => ?_) (fun i s b hi hJ => ?_) (by simp)
 ·obtain ⟨rfl, rfl⟩ := hJ
  rw [he]; simp
 ·obtain ⟨rfl, rfl⟩ := hJ
  rw [hb i hi, List.drop_eq_getElem_cons hi, List.all_cons]
  cases hp : p xs[i] with
  | true => exact .inr ⟨_, rfl, rfl, by simp⟩
  | false => exact .inl (by simp)
def hz_ (m : stat_number) : Bool := decide (-1 ≤ m.n_) && decide (m.n_ ≤ m.most_)
def cq_ (x : api_Dir) : List stat_number := [(stat_number.mk x.Type_ 2 65534), (stat_number.mk x.Dev_ 4 4294967294), (stat_number.mk x.Qid_.Type_ 1 232), (stat_number.mk x.Qid_.Vers_ 4 2147483647), (stat_number.mk x.Qid_.Path_ 8 1099511627776), (stat_number.mk x.Mode_ 4 3892314623), (stat_number.mk x.Atime_ 8 1099511627776), (stat_number.mk x.Mtime_ 8 1099511627776), (stat_number.mk x.Length_ 8 9007199254740991)]
theorem o0_ (x : api_Dir) : hp_ x = some (cq_ x) := rfl
theorem check_loop (ns : List stat_number) (h : ns.length ≤ 1000) : an_ (gC_ ns) BIG (0, ns) = some (if ns.all hz_ then .fall () else .ret 5) := by
 have hB : BIG = 18446744073709551616 := rfl
 refine loop_all2 ns ns hz_ 5 (by omega) (fun i hi => ?_) ?_
 ·unfold gC_
  simp only
  rw [az_ hi]
  have h1 : decide ((i : Int) < (ns.length : Int)) = true := by simp; omega
  rw [h1, am_ (n := (i : Int) + 1) ⟨by omega, by omega⟩]
  generalize ns[i] = m
  simp only [cond_true, Option.bind_some]
  have e : hz_ m = !(decide (m.n_ < -1) || decide (m.n_ > m.most_)) := by
   unfold hz_
   rw [Bool.eq_iff_iff]
   simp only [Bool.and_eq_true, decide_eq_true_eq, Bool.not_eq_true', Bool.or_eq_false_iff, decide_eq_false_iff_not]
   omega
  rw [e]
  cases decide (m.n_ < -1) <;> cases decide (m.n_ > m.most_) <;> simp
 ·unfold gC_
  have h1 : decide ((ns.length : Int) < (ns.length : Int)) = false := by simp
  rw [h1]; rfl
def cG_ (x m : Int) : Bool := (x == -1) || (decide (x ≥ 0) && (andI .i64 x m == x))
def dA_ (x m : Int) : Bool := (x == -1) || (decide (x ≥ 0) && decide (x ≤ m))
theorem kw_ (x : Int) (m : Nat) (hm : m < 2 ^ 63) (hx : x ≤ 9223372036854775807) : et_ x (m : Int) = some (cG_ x (m : Int)) := by
 unfold et_ cG_
 by_cases h0 : 0 ≤ x
 ·obtain ⟨n, rfl⟩ : ∃ n : Nat, x = (n : Int) := ⟨x.toNat, by omega⟩
  rw [andNot_zero (by omega) hm]
 ·have h0' : decide (x ≥ 0) = false := by simp; omega
  rw [h0']
  simp
theorem ic_ (x : Int) (m : Nat) (hm : m < 2 ^ 63) (hx : x ≤ 9223372036854775807) (h : cG_ x (m : Int) = true) : dA_ x (m : Int) = true := by
 unfold cG_ at h
 unfold dA_
 by_cases h0 : 0 ≤ x
 ·obtain ⟨n, rfl⟩ : ∃ n : Nat, x = (n : Int) := ⟨x.toNat, by omega⟩
  rw [andI_nat (by omega) hm] at h
  simp only [Bool.or_eq_true, Bool.and_eq_true, beq_iff_eq, decide_eq_true_eq] at h ⊢
  rcases h with h | ⟨_, h⟩
  ·exact .inl h
  ·have : n &&& m = n := by omega
   have := and_le this
   exact .inr ⟨h0, by omega⟩
 ·simp only [Bool.or_eq_true, Bool.and_eq_true, beq_iff_eq, decide_eq_true_eq] at h ⊢
  rcases h with h | ⟨h, _⟩
  ·exact .inl h
  ·omega
theorem okNum_in (n w m : Int) : hz_ ⟨n, w, m⟩ = dA_ n m ∨ m < -1 := by
 by_cases hm : m < -1
 ·exact .inr hm
 ·refine .inl ?_
  unfold hz_ dA_
  rw [Bool.eq_iff_iff]
  simp only [Bool.or_eq_true, Bool.and_eq_true, beq_iff_eq, decide_eq_true_eq]
  omega
def cc_ (x : api_Dir) : Bool := dA_ x.Type_ 65534 && dA_ x.Dev_ 4294967294 && cG_ x.Qid_.Type_ 232 && dA_ x.Qid_.Vers_ 2147483647 && dA_ x.Qid_.Path_ 1099511627776 && cG_ x.Mode_ 3892314623 && dA_ x.Atime_ 1099511627776 && dA_ x.Mtime_ 1099511627776 && dA_ x.Length_ 9007199254740991
def id_ (x : api_Dir) : Bool := (x.Name_ == [] || x.Name_ == [47] || cb_ x.Name_) && decide (x.Uid_.length ≤ 64) && decide (x.Gid_.length ≤ 64) && decide (x.Muid_.length ≤ 64)
def bi_ (x : api_Dir) : Int := if cc_ x then (if id_ x then 0 else 6) else 5
theorem o1_ (x : api_Dir) (h : x.ok) : ((cq_ x).all hz_ && cG_ x.Qid_.Type_ 232 && cG_ x.Mode_ 3892314623) = cc_ x := by
 have e := fun n w m (hm : ¬ m < -1) => (okNum_in n w m).resolve_right hm
 have b1 := ic_ x.Qid_.Type_ 232 (by omega) h.2.2.1.1.2
 have b2 := ic_ x.Mode_ 3892314623 (by omega) h.2.2.2.1.2
 unfold cc_ cq_
 simp only [List.all_cons, List.all_nil, e _ _ _ (show ¬ (65534 : Int) < -1 by omega), e _ _ _ (show ¬ (4294967294 : Int) < -1 by omega), e _ _ _ (show ¬ (232 : Int) < -1 by omega), e _ _ _ (show ¬ (2147483647 : Int) < -1 by omega), e _ _ _ (show ¬ (1099511627776 : Int) < -1 by omega), e _ _ _ (show ¬ (3892314623 : Int) < -1 by omega), e _ _ _ (show ¬ (9007199254740991 : Int) < -1 by omega)]
 simp only [Int.cast_ofNat_Int] at b1 b2
 cases h1 : cG_ x.Qid_.Type_ 232 <;> cases h2 : cG_ x.Mode_ 3892314623 <;> simp_all [Bool.and_assoc]
theorem aL_ (x : api_Dir) (h : x.ok) (hn : x.Name_.length ≤ 9223372036854775807) : ga_ x = some (bi_ x) := by
 have hl := o1_ x h
 have w1 := kw_ x.Qid_.Type_ 232 (by omega) h.2.2.1.1.2
 have w2 := kw_ x.Mode_ 3892314623 (by omega) h.2.2.2.1.2
 simp only [Int.cast_ofNat_Int] at w1 w2
 unfold ga_ bi_
 rw [o0_]
 simp only [Option.bind_some]
 rw [check_loop (cq_ x) (show (9 : Nat) ≤ 1000 by decide)]
 simp only [Option.bind_some]
 rw [← hl]
 cases h1 : (cq_ x).all hz_ with
 | false => simp
 | true =>
  simp only [if_true]
  rw [w1, w2, nY_ _ hn]
  simp only [Option.bind_some]
  have em : decide (maxI (maxI (x.Uid_.length : Int) (x.Gid_.length : Int)) (x.Muid_.length : Int) > 64) = !(decide (x.Uid_.length ≤ 64) && decide (x.Gid_.length ≤ 64) && decide (x.Muid_.length ≤ 64)) := by
   rw [Bool.eq_iff_iff]
   simp only [Bool.not_eq_true', Bool.and_eq_false_iff, decide_eq_true_eq, decide_eq_false_iff_not]
   unfold maxI
   split <;> split <;> omega
  rw [em]
  unfold id_
  cases cG_ x.Qid_.Type_ 232 <;> cases cG_ x.Mode_ 3892314623 <;> cases (x.Name_ == []) <;> cases (x.Name_ == [47]) <;> cases cb_ x.Name_ <;> cases decide (x.Uid_.length ≤ 64) <;> cases decide (x.Gid_.length ≤ 64) <;> cases decide (x.Muid_.length ≤ 64) <;> simp
theorem repeat_eq (w : Nat) (hw : w ≤ 8) : strings_Repeat [255] (w : Int) = some (leB (-1) w) := by
 unfold strings_Repeat
 rw [if_pos ⟨by omega, by omega, by simp; omega⟩]
 simp only [Int.toNat_natCast, Option.some.injEq]
 unfold leB leL
 induction w with
 | zero => rfl
 | succ k ih =>
  rw [List.replicate_succ', List.flatten_append, ih (by omega), List.range_succ, List.map_append]
  simp [b8_, lO_]
theorem dK_ (m : stat_number) (w : Nat) (hw : m.width_ = (w : Int)) (h1 : 1 ≤ w) (h8 : w ≤ 8) (hok : hz_ m = true) (hm : w < 8 → m.most_ < 2 ^ (8 * w)) : jY_ m = some (leB m.n_ w) := by
 unfold jY_
 unfold hz_ at hok
 simp only [Bool.and_eq_true, decide_eq_true_eq] at hok
 rw [hw]
 by_cases hn : m.n_ = -1
 ·have c : (m.n_ == -1) = true := by simp [hn]
  rw [c, hn, repeat_eq w h8]; rfl
 ·have c : (m.n_ == -1) = false := by simp [hn]
  rw [c, j0_ m.n_ w h1 h8 (by omega) (fun h => by have := hm h; omega)]; rfl
def cL_ (x : api_Dir) : Str := leB x.Type_ 2 ++ leB x.Dev_ 4 ++ leB x.Qid_.Type_ 1 ++ leB x.Qid_.Vers_ 4 ++ leB x.Qid_.Path_ 8 ++ leB x.Mode_ 4 ++ leB x.Atime_ 8 ++ leB x.Mtime_ 8 ++ leB x.Length_ 8
def aD_ (x : api_Dir) : Str := cL_ x ++ bp_ x.Name_ ++ bp_ x.Uid_ ++ bp_ x.Gid_ ++ bp_ x.Muid_
def bf_ (x : api_Dir) : Str := leB ((aD_ x).length : Int) 2 ++ aD_ x
theorem hd_ (x : api_Dir) : (cL_ x).length = 47 := by simp [cL_, ap_]
theorem iO_ (x : api_Dir) : (aD_ x).length = 55 + x.Name_.length + x.Uid_.length + x.Gid_.length + x.Muid_.length := by simp [aD_, hd_, b4_]; omega
theorem j1_ (x : api_Dir) : (bf_ x).length = 57 + x.Name_.length + x.Uid_.length + x.Gid_.length + x.Muid_.length := by simp [bf_, ap_, iO_]; omega
theorem di_ (x : api_Dir) (h : bi_ x = 0) : cc_ x = true ∧ id_ x = true := by
 unfold bi_ at h
 cases h1 : cc_ x <;> cases h2 : id_ x <;> simp_all
theorem eQ_ (x : api_Dir) (h : id_ x = true) : x.Name_.length ≤ 64 ∧ x.Uid_.length ≤ 64 ∧ x.Gid_.length ≤ 64 ∧ x.Muid_.length ≤ 64 := by
 unfold id_ cb_ at h
 simp only [Bool.and_eq_true, Bool.or_eq_true, beq_iff_eq, decide_eq_true_eq] at h
 obtain ⟨⟨⟨hn, h1⟩, h2⟩, h3⟩ := h
 refine ⟨?_, h1, h2, h3⟩
 rcases hn with (hn | hn) | hn
 ·rw [hn]; simp
 ·rw [hn]; simp
 ·omega
theorem rs_ (x : api_Dir) (hok : (cq_ x).all hz_ = true) : an_ (fn_ (cq_ x)) BIG ([], 0, cq_ x) = some (cL_ x) := by
 have hl : (cq_ x).length = 9 := rfl
 simp only [cq_, List.all_cons, List.all_nil, Bool.and_true, Bool.and_eq_true] at hok
 obtain ⟨o0, o1, o2, o3, o4, o5, o6, o7, o8⟩ := hok
 have s0 := dK_ _ 2 rfl (by omega) (by omega) o0 (fun _ => by show (65534 : Int) < 2 ^ 16; omega)
 have s1 := dK_ _ 4 rfl (by omega) (by omega) o1 (fun _ => by show (4294967294 : Int) < 2 ^ 32; omega)
 have s2 := dK_ _ 1 rfl (by omega) (by omega) o2 (fun _ => by show (232 : Int) < 2 ^ 8; omega)
 have s3 := dK_ _ 4 rfl (by omega) (by omega) o3 (fun _ => by show (2147483647 : Int) < 2 ^ 32; omega)
 have s4 := dK_ _ 8 rfl (by omega) (by omega) o4 (fun h => by omega)
 have s5 := dK_ _ 4 rfl (by omega) (by omega) o5 (fun _ => by show (3892314623 : Int) < 2 ^ 32; omega)
 have s6 := dK_ _ 8 rfl (by omega) (by omega) o6 (fun h => by omega)
 have s7 := dK_ _ 8 rfl (by omega) (by omega) o7 (fun h => by omega)
 have s8 := dK_ _ 8 rfl (by omega) (by omega) o8 (fun h => by omega)
 let bs : List Str := [leB x.Type_ 2, leB x.Dev_ 4, leB x.Qid_.Type_ 1, leB x.Qid_.Vers_ 4, leB x.Qid_.Path_ 8, leB x.Mode_ 4, leB x.Atime_ 8, leB x.Mtime_ 8, leB x.Length_ 8]
 have step : ∀ (i : Nat) (m : stat_number) (b acc : Str), i < 9 → (cq_ x)[i]? = some m → jY_ m = some b → acc.length ≤ 1000 → b.length ≤ 8 → fn_ (cq_ x) (acc, (i : Int), cq_ x) = some (.next (acc ++ b, ((i + 1 : Nat) : Int), cq_ x)) := fun i m b acc hi hm hp ha hb => by
  unfold fn_
  have h1 : decide ((i : Int) < ((cq_ x).length : Int)) = true := by rw [hl]; simp; omega
  simp only [h1, cond_true]
  rw [dz_, hm]
  simp only [Option.bind_some]
  rw [hp]
  simp only [Option.bind_some]
  rw [c4_ (by omega)]
  simp only [Option.bind_some]
  rw [am_ (n := (i : Int) + 1) ⟨by omega, by omega⟩]
  rfl
 have h := fU_ (body := fn_ (cq_ x)) (fun i => ((bs.take i).flatten, (i : Int), cq_ x)) 9 (by show (9 : Nat) < 18446744073709551616; omega) (b := cL_ x) (fun i hi => ?_) ?_
 ·exact h
 ·have hcases : i = 0 ∨ i = 1 ∨ i = 2 ∨ i = 3 ∨ i = 4 ∨ i = 5 ∨ i = 6 ∨ i = 7 ∨ i = 8 := by omega
  have hlen : ((bs.take i).flatten).length ≤ 1000 := by
   rcases hcases with rfl | rfl | rfl | rfl | rfl | rfl | rfl | rfl | rfl <;> simp [bs, ap_]
  rcases hcases with rfl | rfl | rfl | rfl | rfl | rfl | rfl | rfl | rfl
  ·exact (step 0 _ _ _ (by omega) rfl s0 hlen (by rw [ap_]; omega)).trans (by simp [bs])
  ·exact (step 1 _ _ _ (by omega) rfl s1 hlen (by rw [ap_]; omega)).trans (by simp [bs])
  ·exact (step 2 _ _ _ (by omega) rfl s2 hlen (by rw [ap_]; omega)).trans (by simp [bs])
  ·exact (step 3 _ _ _ (by omega) rfl s3 hlen (by rw [ap_]; omega)).trans (by simp [bs])
  ·exact (step 4 _ _ _ (by omega) rfl s4 hlen (by rw [ap_]; omega)).trans (by simp [bs])
  ·exact (step 5 _ _ _ (by omega) rfl s5 hlen (by rw [ap_]; omega)).trans (by simp [bs])
  ·exact (step 6 _ _ _ (by omega) rfl s6 hlen (by rw [ap_]; omega)).trans (by simp [bs])
  ·exact (step 7 _ _ _ (by omega) rfl s7 hlen (by rw [ap_]; omega)).trans (by simp [bs])
  ·exact (step 8 _ _ _ (by omega) rfl s8 hlen (by rw [ap_]; omega)).trans (by simp [bs])
 ·unfold fn_
  have h1 : decide (((9 : Nat) : Int) < ((cq_ x).length : Int)) = false := by rw [hl]; simp
  simp only [h1, cond_false]
  simp [bs, cL_]
theorem qd_ (x : api_Dir) (hx : x.Name_.length ≤ 1000 ∧ x.Uid_.length ≤ 1000 ∧ x.Gid_.length ≤ 1000 ∧ x.Muid_.length ≤ 1000) : an_ (fo_ x) BIG (cL_ x, 0, [x.Name_, x.Uid_, x.Gid_, x.Muid_]) = some (.fall (aD_ x)) := by
 let ts : List Str := [x.Name_, x.Uid_, x.Gid_, x.Muid_]
 have hl : ts.length = 4 := rfl
 have step : ∀ (i : Nat) (t acc : Str), i < 4 → ts[i]? = some t → t.length ≤ 1000 → acc.length ≤ 10000 → fo_ x (acc, (i : Int), [x.Name_, x.Uid_, x.Gid_, x.Muid_]) = some (.next (acc ++ bp_ t, ((i + 1 : Nat) : Int), [x.Name_, x.Uid_, x.Gid_, x.Muid_])) := fun i t acc hi ht hlt ha => by
  unfold fo_
  have h1 : decide ((i : Int) < ([x.Name_, x.Uid_, x.Gid_, x.Muid_].length : Int)) = true := by simp; omega
  simp only [h1, cond_true]
  rw [dz_, show [x.Name_, x.Uid_, x.Gid_, x.Muid_][i]? = some t from ht]
  simp only [Option.bind_some]
  rw [text_put t (by omega)]
  simp only [Option.bind_some, bne_self_eq_false, cond_false]
  rw [c4_ (by rw [b4_]; omega)]
  simp only [Option.bind_some]
  rw [am_ (n := (i : Int) + 1) ⟨by omega, by omega⟩]
  rfl
 have h := fU_ (body := fo_ x) (fun i => (cL_ x ++ ((ts.take i).map bp_).flatten, (i : Int), [x.Name_, x.Uid_, x.Gid_, x.Muid_])) 4 (by show (4 : Nat) < 18446744073709551616; omega) (b := .fall (aD_ x)) (fun i hi => ?_) ?_
 ·simpa using h
 ·have hcases : i = 0 ∨ i = 1 ∨ i = 2 ∨ i = 3 := by omega
  have hlen : (cL_ x ++ ((ts.take i).map bp_).flatten).length ≤ 10000 := by
   rcases hcases with rfl | rfl | rfl | rfl <;> simp [ts, hd_, b4_] <;> omega
  rcases hcases with rfl | rfl | rfl | rfl
  ·exact (step 0 _ _ (by omega) rfl hx.1 hlen).trans (by simp [ts])
  ·exact (step 1 _ _ (by omega) rfl hx.2.1 hlen).trans (by simp [ts])
  ·exact (step 2 _ _ (by omega) rfl hx.2.2.1 hlen).trans (by simp [ts])
  ·exact (step 3 _ _ (by omega) rfl hx.2.2.2 hlen).trans (by simp [ts])
 ·unfold fo_
  have h1 : decide (((4 : Nat) : Int) < ([x.Name_, x.Uid_, x.Gid_, x.Muid_].length : Int)) = false := by simp
  simp only [h1, cond_false]
  simp [ts, aD_]
def putR (x : api_Dir) : Str × Int := if bi_ x = 0 then (bf_ x, 0) else ([], bi_ x)
theorem put_eq (x : api_Dir) (h : x.ok) (hn : x.Name_.length ≤ 9223372036854775807) : lJ_ x = some (putR x) := by
 unfold lJ_ putR
 rw [aL_ x h hn]
 simp only [Option.bind_some]
 by_cases hc : bi_ x = 0
 ·obtain ⟨hN, hT⟩ := di_ x hc
  have htl := eQ_ x hT
  have hnl := o1_ x h
  rw [hN] at hnl
  simp only [Bool.and_eq_true] at hnl
  have c : (bi_ x != 0) = false := by simp [hc]
  rw [c, if_pos hc, o0_]
  simp only [cond_false, Option.bind_some]
  rw [rs_ x hnl.1.1]
  simp only [Option.bind_some]
  rw [qd_ x (by omega)]
  simp only [Option.bind_some]
  have hbl := iO_ x
  have h2 := j0_ ((aD_ x).length : Int) 2 (by omega) (by omega) (by omega) (fun _ => by show ((aD_ x).length : Int) < 2 ^ 16; omega)
  rw [show ((2 : Nat) : Int) = 2 from rfl] at h2
  rw [h2]
  simp only [Option.bind_some]
  rw [c4_ (by rw [ap_]; omega)]
  rfl
 ·have c : (bi_ x != 0) = true := by simp [hc]
  rw [c, if_neg hc]
  rfl
def el_ (s : Str) : Bool := s.all (· == 255)
def e5_ (s : Str) : Int := if el_ s then -1 else if leV s > 9223372036854775807 then 9223372036854775807 else (leV s : Int)
def dY_ (s : Str) : Int := if el_ s then -1 else if leV s > 9223372036854775807 then -2 else (leV s : Int)
theorem count_255 (s : Str) : ((s.count 255 : Nat) : Int) = (s.length : Int) ↔ el_ s = true := by
 unfold el_
 rw [List.all_eq_true]
 simp only [beq_iff_eq]
 rw [show (((s.count 255 : Nat) : Int) = (s.length : Int)) ↔ s.count 255 = s.length by omega, List.count_eq_length]
 constructor
 ·intro h x hx; exact (h x hx).symm
 ·intro h x hx; exact (h x hx).symm
theorem bN_ (s : Str) (at_ w : Nat) (h1 : 1 ≤ w) (h8 : w ≤ 8) (h : at_ + w ≤ s.length) (hs : s.length ≤ 9223372036854775807) :
  aE_ ⟨s, (at_ : Int), true⟩ (w : Int) = some (dY_ (win s at_ w), ⟨s, ((at_ + w : Nat) : Int), true⟩) := by
 have ea : w64 ((at_ : Int) + (w : Int)) = ((at_ + w : Nat) : Int) := by rw [am_ ⟨by omega, by omega⟩]; omega
 have hwl := by_ h
 unfold aE_
 refine ab_ ?_ ?_
 ·show (!true || decide (w64 ((s.length : Int) - (at_ : Int)) < (w : Int))) = false
  rw [am_ (n := (s.length : Int) - (at_ : Int)) ⟨by omega, by omega⟩]
  simp; omega
 refine aa_ (db_ s at_ w h hs) ?_
 refine aa_ (a := (((win s at_ w).count 255 : Nat) : Int)) rfl ?_
 unfold dY_
 have hc := count_255 (win s at_ w)
 rw [hwl] at hc
 by_cases h255 : el_ (win s at_ w) = true
 ·refine ac_ (by simpa using hc.2 h255) ?_
  rw [if_pos h255, ← ea]
 ·refine ab_ (by rw [beq_eq_false_iff_ne]; exact fun hh => h255 (hc.1 hh)) ?_
  rw [if_neg h255]
  have hg := fW_ (win s at_ w) 0 w h1 h8 (by omega) (by omega)
  rw [hwl, if_neg (by omega)] at hg
  have hww : win (win s at_ w) 0 w = win s at_ w := by have := win_whole (win s at_ w); rwa [hwl] at this
  rw [hww] at hg
  refine aa_ hg ?_
  by_cases hv : leV (win s at_ w) > 9223372036854775807
  ·rw [if_pos hv, if_pos hv]
   refine ac_ rfl ?_
   rw [← ea]
  ·rw [if_neg hv, if_neg hv]
   refine ab_ rfl ?_
   rw [← ea]
theorem ay_ {σ β : Type} {body : σ → Option (Step σ β)} {n : Nat} {s s' : σ} {r : Option β} (h : body s = some (.next s')) (hr : an_ body n s' = r) : an_ body (n + 1) s = r := by
 simp only [an_, h]; exact hr
theorem ar_ {σ β : Type} {body : σ → Option (Step σ β)} {n : Nat} {s : σ} {b : β} (h : body s = some (.done b)) : an_ body (n + 1) s = some b := by
 simp only [an_, h]
theorem eK_ (s : Str) (a : Nat) (h : a ≤ s.length) (hs : s.length ≤ 1000000) :
  ba_ ⟨s, (a : Int), true⟩ = some (match aU_ s a with | none => ([], ⟨s, (a : Int), false⟩) | some (t, p) => (t, ⟨s, (p : Int), true⟩)) := by
 unfold ba_
 refine ab_ rfl ?_
 refine aa_ (lQ_ s a h hs) ?_
 cases aU_ s a with
 | none => exact ac_ rfl rfl
 | some x => exact ab_ rfl rfl
theorem dc_ (s : Str) (a : Int) : ba_ ⟨s, a, false⟩ = some ([], ⟨s, a, false⟩) := by
 unfold ba_
 exact ac_ rfl rfl
theorem nZ_ (s : Str) (a w : Int) : aE_ ⟨s, a, false⟩ w = some (0, ⟨s, a, false⟩) := by
 unfold aE_
 exact ac_ rfl rfl
theorem l8_ (s : Str) (a w : Nat) (h : a ≤ s.length) (hw : s.length < a + w) (hs : s.length ≤ 1000000) : aE_ ⟨s, (a : Int), true⟩ (w : Int) = some (0, ⟨s, (a : Int), false⟩) := by
 unfold aE_
 refine ac_ ?_ rfl
 show (!true || decide (w64 ((s.length : Int) - (a : Int)) < (w : Int))) = true
 rw [am_ ⟨by omega, by omega⟩]
 simp; omega
theorem bQ_ (s : Str) (a w : Nat) (ok : Bool) (h1 : 1 ≤ w) (h8 : w ≤ 8) (h : a ≤ s.length) (hs : s.length ≤ 1000000) :
  ∃ (v : Int) (a' : Nat) (ok' : Bool), aE_ ⟨s, (a : Int), ok⟩ (w : Int) = some (v, ⟨s, (a' : Int), ok'⟩) ∧ a' ≤ s.length ∧ (ok' = true → ok = true ∧ a' = a + w) := by
 cases ok with
 | false => exact ⟨0, a, false, nZ_ s a w, h, fun hh => by cases hh⟩
 | true =>
  by_cases hw : s.length < a + w
  ·exact ⟨0, a, false, l8_ s a w h hw hs, h, fun hh => by cases hh⟩
  ·exact ⟨_, a + w, true, bN_ s a w h1 h8 (by omega) (by omega), by omega, fun _ => ⟨rfl, rfl⟩⟩
theorem fI_ (s : Str) (a : Nat) (ok : Bool) (h : a ≤ s.length) (hs : s.length ≤ 1000000) :
  ∃ (t : Str) (a' : Nat) (ok' : Bool), ba_ ⟨s, (a : Int), ok⟩ = some (t, ⟨s, (a' : Int), ok'⟩) ∧ a' ≤ s.length ∧ (ok' = true → ok = true) := by
 cases ok with
 | false => exact ⟨[], a, false, dc_ s a, h, fun hh => by cases hh⟩
 | true =>
  have ht := eK_ s a h hs
  cases hk : aU_ s a with
  | none => rw [hk] at ht; exact ⟨[], a, false, ht, h, fun hh => by cases hh⟩
  | some x => rw [hk] at ht; exact ⟨x.1, x.2, true, ht, (cC_ hk).1, fun _ => rfl⟩
theorem read_short (s : Str) (hs : s.length < 47) : ∃ d at_, ca_ ⟨s, 0, true⟩ = some (d, ⟨s, at_, false⟩) := by
 have hl : s.length ≤ 1000000 := by omega
 obtain ⟨v1, a1, k1, e1, b1, o1⟩ := bQ_ s 0 2 true (by omega) (by omega) (by omega) hl
 obtain ⟨v2, a2, k2, e2, b2, o2⟩ := bQ_ s a1 4 k1 (by omega) (by omega) b1 hl
 obtain ⟨v3, a3, k3, e3, b3, o3⟩ := bQ_ s a2 1 k2 (by omega) (by omega) b2 hl
 obtain ⟨v4, a4, k4, e4, b4, o4⟩ := bQ_ s a3 4 k3 (by omega) (by omega) b3 hl
 obtain ⟨v5, a5, k5, e5, b5, o5⟩ := bQ_ s a4 8 k4 (by omega) (by omega) b4 hl
 obtain ⟨v6, a6, k6, e6, b6, o6⟩ := bQ_ s a5 4 k5 (by omega) (by omega) b5 hl
 obtain ⟨v7, a7, k7, e7, b7, o7⟩ := bQ_ s a6 8 k6 (by omega) (by omega) b6 hl
 obtain ⟨v8, a8, k8, e8, b8, o8⟩ := bQ_ s a7 8 k7 (by omega) (by omega) b7 hl
 obtain ⟨v9, a9, k9, e9, b9, o9⟩ := bQ_ s a8 8 k8 (by omega) (by omega) b8 hl
 obtain ⟨t1, c1, q1, f1, d1, p1⟩ := fI_ s a9 k9 b9 hl
 obtain ⟨t2, c2, q2, f2, d2, p2⟩ := fI_ s c1 q1 d1 hl
 obtain ⟨t3, c3, q3, f3, d3, p3⟩ := fI_ s c2 q2 d2 hl
 obtain ⟨t4, c4, q4, f4, d4, p4⟩ := fI_ s c3 q3 d3 hl
 have hq : q4 = false := by
  cases hq : q4 with
  | false => rfl
  | true =>
   have g9 := p1 (p2 (p3 (p4 hq)))
   obtain ⟨g8, r9⟩ := o9 g9
   obtain ⟨g7, r8⟩ := o8 g8
   obtain ⟨g6, r7⟩ := o7 g7
   obtain ⟨g5, r6⟩ := o6 g6
   obtain ⟨g4, r5⟩ := o5 g5
   obtain ⟨g3, r4⟩ := o4 g4
   obtain ⟨g2, r3⟩ := o3 g3
   obtain ⟨g1, r2⟩ := o2 g2
   obtain ⟨_, r1⟩ := o1 g1
   omega
 subst hq
 refine ⟨⟨v1, v2, ⟨v3, v4, v5⟩, v6, v7, v8, v9, t1, t2, t3, t4⟩, (c4 : Int), ?_⟩
 unfold ca_
 refine aa_ e1 ?_
 refine aa_ e2 ?_
 refine aa_ e3 ?_
 refine aa_ e4 ?_
 refine aa_ e5 ?_
 refine aa_ e6 ?_
 refine aa_ e7 ?_
 refine aa_ e8 ?_
 refine aa_ e9 ?_
 refine aa_ f1 ?_
 refine aa_ f2 ?_
 refine aa_ f3 ?_
 refine aa_ f4 ?_
 rfl
def e6_ (s : Str) (a : Nat) : Option (Str × Str × Str × Str × Nat) :=
 match aU_ s a with
 | none => none
 | some (t1, p1) => match aU_ s p1 with
  | none => none
  | some (t2, p2) => match aU_ s p2 with
   | none => none
   | some (t3, p3) => match aU_ s p3 with
    | none => none
    | some (t4, p4) => some (t1, t2, t3, t4, p4)
def dirR (s t1 t2 t3 t4 : Str) : api_Dir := ⟨dY_ (win s 0 2), dY_ (win s 2 4), ⟨dY_ (win s 6 1), dY_ (win s 7 4), dY_ (win s 11 8)⟩, dY_ (win s 19 4), dY_ (win s 23 8), dY_ (win s 31 8), dY_ (win s 39 8), t1, t2, t3, t4⟩
theorem read_long (s : Str) (hs : 47 ≤ s.length) (hl : s.length ≤ 1000000) : match e6_ s 47 with
  | some (t1, t2, t3, t4, p) => ca_ ⟨s, 0, true⟩ = some (dirR s t1 t2 t3 t4, ⟨s, (p : Int), true⟩)
  | none => ∃ d at_, ca_ ⟨s, 0, true⟩ = some (d, ⟨s, at_, false⟩) := by
 have e1 := bN_ s 0 2 (by omega) (by omega) (by omega) (by omega)
 have e2 := bN_ s 2 4 (by omega) (by omega) (by omega) (by omega)
 have e3 := bN_ s 6 1 (by omega) (by omega) (by omega) (by omega)
 have e4 := bN_ s 7 4 (by omega) (by omega) (by omega) (by omega)
 have e5 := bN_ s 11 8 (by omega) (by omega) (by omega) (by omega)
 have e6 := bN_ s 19 4 (by omega) (by omega) (by omega) (by omega)
 have e7 := bN_ s 23 8 (by omega) (by omega) (by omega) (by omega)
 have e8 := bN_ s 31 8 (by omega) (by omega) (by omega) (by omega)
 have e9 := bN_ s 39 8 (by omega) (by omega) (by omega) (by omega)
 have key : ∀ (t1 t2 t3 t4 : Str) (r1 r2 r3 r4 : stat_reader), ba_ ⟨s, ((47 : Nat) : Int), true⟩ = some (t1, r1) → ba_ r1 = some (t2, r2) → ba_ r2 = some (t3, r3) → ba_ r3 = some (t4, r4) →
   ca_ ⟨s, 0, true⟩ = some (dirR s t1 t2 t3 t4, r4) := by
  intro t1 t2 t3 t4 r1 r2 r3 r4 f1 f2 f3 f4
  unfold ca_
  refine aa_ e1 ?_
  refine aa_ e2 ?_
  refine aa_ e3 ?_
  refine aa_ e4 ?_
  refine aa_ e5 ?_
  refine aa_ e6 ?_
  refine aa_ e7 ?_
  refine aa_ e8 ?_
  refine aa_ e9 ?_
  refine aa_ f1 ?_
  refine aa_ f2 ?_
  refine aa_ f3 ?_
  refine aa_ f4 ?_
  rfl
 have ht1 := eK_ s 47 (by omega) hl
 unfold e6_
 cases h1 : aU_ s 47 with
 | none =>
  rw [h1] at ht1
  exact ⟨_, _, key _ _ _ _ _ _ _ _ ht1 (dc_ _ _) (dc_ _ _) (dc_ _ _)⟩
 | some x1 =>
  obtain ⟨t1, p1⟩ := x1
  rw [h1] at ht1
  have l1 := (cC_ h1).1
  have ht2 := eK_ s p1 l1 hl
  simp only
  cases h2 : aU_ s p1 with
  | none =>
   rw [h2] at ht2
   exact ⟨_, _, key _ _ _ _ _ _ _ _ ht1 ht2 (dc_ _ _) (dc_ _ _)⟩
  | some x2 =>
   obtain ⟨t2, p2⟩ := x2
   rw [h2] at ht2
   have l2 := (cC_ h2).1
   have ht3 := eK_ s p2 l2 hl
   simp only
   cases h3 : aU_ s p2 with
   | none =>
    rw [h3] at ht3
    exact ⟨_, _, key _ _ _ _ _ _ _ _ ht1 ht2 ht3 (dc_ _ _)⟩
   | some x3 =>
    obtain ⟨t3, p3⟩ := x3
    rw [h3] at ht3
    have l3 := (cC_ h3).1
    have ht4 := eK_ s p3 l3 hl
    simp only
    cases h4 : aU_ s p3 with
    | none =>
     rw [h4] at ht4
     exact ⟨_, _, key _ _ _ _ _ _ _ _ ht1 ht2 ht3 ht4⟩
    | some x4 =>
     obtain ⟨t4, p4⟩ := x4
     rw [h4] at ht4
     exact key _ _ _ _ _ _ _ _ ht1 ht2 ht3 ht4
theorem mF_ (s : Str) (k a w : Nat) : win (s.drop k) a w = win s (k + a) w := by simp [win, List.drop_drop]
theorem gt_ (s : Str) (k a : Nat) (hk : k ≤ s.length) : aU_ (s.drop k) a = (aU_ s (k + a)).map fun x => (x.1, x.2 - k) := by
 unfold aU_
 rw [mF_, mF_, List.length_drop]
 rw [show k + (a + 2) = k + a + 2 by omega]
 by_cases h1 : s.length < k + a + 2
 ·rw [if_pos (by omega), if_pos h1]; rfl
 ·rw [if_neg (by omega), if_neg h1]
  by_cases h2 : s.length < k + a + 2 + leV (win s (k + a) 2)
  ·rw [if_pos (by omega), if_pos h2]; rfl
  ·rw [if_neg (by omega), if_neg h2]
   simp only [Option.map_some, Option.some.injEq, Prod.mk.injEq, true_and]
   omega
theorem take4_shift (s : Str) (k : Nat) (hk : k ≤ s.length) : e6_ (s.drop k) 0 = (e6_ s k).map fun x => (x.1, x.2.1, x.2.2.1, x.2.2.2.1, x.2.2.2.2 - k) := by
 unfold e6_
 rw [gt_ s k 0 hk, Nat.add_zero]
 cases h1 : aU_ s k with
 | none => rfl
 | some x1 =>
  obtain ⟨t1, p1⟩ := x1
  have g1 := cC_ h1
  simp only [Option.map_some]
  rw [gt_ s k (p1 - k) hk, show k + (p1 - k) = p1 by omega]
  cases h2 : aU_ s p1 with
  | none => rfl
  | some x2 =>
   obtain ⟨t2, p2⟩ := x2
   have g2 := cC_ h2
   simp only [Option.map_some]
   rw [gt_ s k (p2 - k) hk, show k + (p2 - k) = p2 by omega]
   cases h3 : aU_ s p2 with
   | none => rfl
   | some x3 =>
    obtain ⟨t3, p3⟩ := x3
    have g3 := cC_ h3
    simp only [Option.map_some]
    rw [gt_ s k (p3 - k) hk, show k + (p3 - k) = p3 by omega]
    cases h4 : aU_ s p3 with
    | none => rfl
    | some x4 => rfl
def zeroDir : api_Dir := api_Dir.mk 0 0 (api_Qid.mk 0 0 0) 0 0 0 0 [] [] [] []
theorem iP_ (s : Str) (h : s.length ≤ 4) : dY_ s = e5_ s := by
 have hl := fV_ s
 have hp : 2 ^ (8 * s.length) ≤ 2 ^ 32 := Nat.pow_le_pow_right (by omega) (by omega)
 unfold dY_ e5_
 split
 ·rfl
 ·rw [if_neg (by omega), if_neg (by omega)]
theorem nb_ (s : Str) : dY_ s = e5_ s ∨ (dY_ s = -2 ∧ e5_ s = 9223372036854775807) := by
 unfold dY_ e5_
 split
 ·exact .inl rfl
 ·split
  ·exact .inr ⟨rfl, rfl⟩
  ·exact .inl rfl
theorem ge_ (s : Str) : InK .i64 (dY_ s) := by
 show -9223372036854775808 ≤ dY_ s ∧ dY_ s ≤ 9223372036854775807
 unfold dY_
 split
 ·omega
 ·split <;> omega
theorem take4_le {s t1 t2 t3 t4 : Str} {a p : Nat} (h : e6_ s a = some (t1, t2, t3, t4, p)) : p ≤ s.length ∧ t1.length ≤ s.length ∧ t2.length ≤ s.length ∧ t3.length ≤ s.length ∧ t4.length ≤ s.length ∧ a + 8 ≤ p := by
 unfold e6_ at h
 cases h1 : aU_ s a with
 | none => rw [h1] at h; cases h
 | some x1 =>
  obtain ⟨u1, p1⟩ := x1
  rw [h1] at h
  simp only at h
  cases h2 : aU_ s p1 with
  | none => rw [h2] at h; cases h
  | some x2 =>
   obtain ⟨u2, p2⟩ := x2
   rw [h2] at h
   simp only at h
   cases h3 : aU_ s p2 with
   | none => rw [h3] at h; cases h
   | some x3 =>
    obtain ⟨u3, p3⟩ := x3
    rw [h3] at h
    simp only at h
    cases h4 : aU_ s p3 with
    | none => rw [h4] at h; cases h
    | some x4 =>
     obtain ⟨u4, p4⟩ := x4
     rw [h4] at h
     simp only [Option.some.injEq, Prod.mk.injEq] at h
     obtain ⟨rfl, rfl, rfl, rfl, rfl⟩ := h
     have g1 := cC_ h1
     have g2 := cC_ h2
     have g3 := cC_ h3
     have g4 := cC_ h4
     omega
theorem dirR_ok (s t1 t2 t3 t4 : Str) (h1 : t1.length ≤ 1000000) (h2 : t2.length ≤ 1000000) (h3 : t3.length ≤ 1000000) (h4 : t4.length ≤ 1000000) : (dirR s t1 t2 t3 t4).ok :=
 ⟨ge_ _, ge_ _, ⟨ge_ _, ge_ _, ge_ _⟩, ge_ _, ge_ _, ge_ _, ge_ _, by show t1.length ≤ _; omega, by show t2.length ≤ _; omega, by show t3.length ≤ _; omega, by show t4.length ≤ _; omega⟩
end Go.Proofs.YtolgkhjkdadhiaaGreat
namespace Go.Proofs.YtolgkhjkdadhiaaGreat
open Go.Rt Go.RowKit
def ev_ (s t1 t2 t3 t4 : Str) : api_Dir := ⟨e5_ (win s 0 2), e5_ (win s 2 4), ⟨e5_ (win s 6 1), e5_ (win s 7 4), e5_ (win s 11 8)⟩, e5_ (win s 19 4), e5_ (win s 23 8), e5_ (win s 31 8), e5_ (win s 39 8), t1, t2, t3, t4⟩
theorem dir_check (s t1 t2 t3 t4 : Str) (h : 47 ≤ s.length) : bi_ (dirR s t1 t2 t3 t4) = bi_ (ev_ s t1 t2 t3 t4) ∧ (bi_ (ev_ s t1 t2 t3 t4) = 0 → dirR s t1 t2 t3 t4 = ev_ s t1 t2 t3 t4) := by
 have q1 := iP_ (win s 0 2) (by rw [by_ (by omega)]; omega)
 have q2 := iP_ (win s 2 4) (by rw [by_ (by omega)]; omega)
 have q3 := iP_ (win s 6 1) (by rw [by_ (by omega)]; omega)
 have q4 := iP_ (win s 7 4) (by rw [by_ (by omega)]; omega)
 have q6 := iP_ (win s 19 4) (by rw [by_ (by omega)]; omega)
 have bad : ∀ x : api_Dir, cc_ x = false → bi_ x = 5 := fun x hx => by unfold bi_; rw [hx]; rfl
 have i1 : dA_ (-2) 1099511627776 = false := rfl
 have i2 : dA_ 9223372036854775807 1099511627776 = false := rfl
 have i3 : dA_ (-2) 9007199254740991 = false := rfl
 have i4 : dA_ 9223372036854775807 9007199254740991 = false := rfl
 have fin : cc_ (dirR s t1 t2 t3 t4) = false → cc_ (ev_ s t1 t2 t3 t4) = false → bi_ (dirR s t1 t2 t3 t4) = bi_ (ev_ s t1 t2 t3 t4) ∧ (bi_ (ev_ s t1 t2 t3 t4) = 0 → dirR s t1 t2 t3 t4 = ev_ s t1 t2 t3 t4) := fun h1 h2 => by
  rw [bad _ h1, bad _ h2]
  exact ⟨rfl, fun hh => by omega⟩
 rcases nb_ (win s 11 8) with q5 | ⟨q5, q5'⟩
 ·rcases nb_ (win s 23 8) with q7 | ⟨q7, q7'⟩
  ·rcases nb_ (win s 31 8) with q8 | ⟨q8, q8'⟩
   ·rcases nb_ (win s 39 8) with q9 | ⟨q9, q9'⟩
    ·have e : dirR s t1 t2 t3 t4 = ev_ s t1 t2 t3 t4 := by unfold dirR ev_; rw [q1, q2, q3, q4, q5, q6, q7, q8, q9]
     rw [e]
     exact ⟨rfl, fun _ => rfl⟩
    ·exact fin (by simp [cc_, dirR, q9, i3]) (by simp [cc_, ev_, q9', i4])
   ·exact fin (by simp [cc_, dirR, q8, i1]) (by simp [cc_, ev_, q8', i2])
  ·exact fin (by simp [cc_, dirR, q7, i1]) (by simp [cc_, ev_, q7', i2])
 ·exact fin (by simp [cc_, dirR, q5, i1]) (by simp [cc_, ev_, q5', i2])
def getR (s : Str) (a : Nat) : api_Dir × Int × Int :=
 if s.length < a + 2 then (zeroDir, 0, 3) else
 if s.length < a + 2 + leV (win s a 2) then (zeroDir, 0, 3) else
 if leV (win s a 2) < 47 then (zeroDir, 0, 2) else
 match e6_ (win s (a + 2) (leV (win s a 2))) 47 with
 | none => (zeroDir, 0, 2)
 | some (t1, t2, t3, t4, p) => if p = leV (win s a 2) then
   if bi_ (ev_ (win s (a + 2) (leV (win s a 2))) t1 t2 t3 t4) = 0 then (ev_ (win s (a + 2) (leV (win s a 2))) t1 t2 t3 t4, ((a + 2 + leV (win s a 2) : Nat) : Int), 0) else (zeroDir, 0, bi_ (ev_ (win s (a + 2) (leV (win s a 2))) t1 t2 t3 t4))
  else (zeroDir, 0, 2)
theorem kU_ (s : Str) (a : Nat) (h : a ≤ s.length) (hs : s.length ≤ 1000000) : lK_ s (a : Int) = some (getR s a) := by
 unfold lK_ getR
 have hg := fW_ s a 2 (by omega) (by omega) h (by omega)
 rw [show ((2 : Nat) : Int) = 2 from rfl] at hg
 by_cases h2 : s.length < a + 2
 ·rw [if_pos (by omega)] at hg
  rw [if_pos h2]
  refine aa_ hg ?_
  exact ac_ rfl rfl
 ·have hv := fu_ s a (by omega)
  rw [if_neg (by omega), if_neg (by omega)] at hg
  rw [if_neg h2]
  refine aa_ hg ?_
  refine ab_ rfl ?_
  have ew : w64 ((s.length : Int) - ((a + 2 : Nat) : Int)) = ((s.length - (a + 2) : Nat) : Int) := by rw [am_ ⟨by omega, by omega⟩]; omega
  have ex : w64 (((a + 2 : Nat) : Int) + (leV (win s a 2) : Int)) = ((a + 2 + leV (win s a 2) : Nat) : Int) := by rw [am_ ⟨by omega, by omega⟩]; omega
  by_cases h3 : s.length < a + 2 + leV (win s a 2)
  ·rw [if_pos h3]
   refine ac_ ?_ rfl
   show decide (w64 ((s.length : Int) - ((a + 2 : Nat) : Int)) < (leV (win s a 2) : Int)) = true
   rw [ew]; simp only [decide_eq_true_eq]; omega
  ·rw [if_neg h3]
   refine ab_ ?_ ?_
   ·show decide (w64 ((s.length : Int) - ((a + 2 : Nat) : Int)) < (leV (win s a 2) : Int)) = false
    rw [ew]; simp only [decide_eq_false_iff_not]; omega
   refine aa_ (db_ s (a + 2) (leV (win s a 2)) (by omega) (by omega)) ?_
   have hwl : (win s (a + 2) (leV (win s a 2))).length = leV (win s a 2) := by_ (by omega)
   generalize leV (win s a 2) = n at hwl hv h3 ex ⊢
   generalize win s (a + 2) n = y at hwl ⊢
   by_cases h47 : n < 47
   ·rw [if_pos h47]
    obtain ⟨d, at_, hr⟩ := read_short y (by omega)
    refine aa_ hr ?_
    exact ac_ rfl rfl
   ·rw [if_neg h47]
    have hr := read_long y (by omega) (by omega)
    cases h4 : e6_ y 47 with
    | none =>
     rw [h4] at hr
     obtain ⟨d, at_, hr⟩ := hr
     refine aa_ hr ?_
     exact ac_ rfl rfl
    | some x =>
     obtain ⟨t1, t2, t3, t4, p⟩ := x
     rw [h4] at hr
     refine aa_ hr ?_
     simp only
     by_cases hp : p = n
     ·rw [if_pos hp]
      refine ab_ (by simp [hp]) ?_
      have hle := take4_le h4
      have hB : BIG = 18446744073709551616 := rfl
      refine aa_ (aL_ _ (dirR_ok y t1 t2 t3 t4 (by omega) (by omega) (by omega) (by omega)) (by show t1.length ≤ _; omega)) ?_
      have hd := dir_check y t1 t2 t3 t4 (by omega)
      rw [hd.1]
      by_cases hc : bi_ (ev_ y t1 t2 t3 t4) = 0
      ·rw [if_pos hc]
       refine ab_ (by simp [hc]) ?_
       show some (dirR y t1 t2 t3 t4, w64 (((a + 2 : Nat) : Int) + (n : Int)), (0 : Int)) = _
       rw [hd.2 hc, ex]
      ·rw [if_neg hc]
       exact ac_ (by simp [hc]) rfl
     ·rw [if_neg hp]
      refine ac_ ?_ rfl
      simp only [Bool.or_eq_true, bne_iff_ne]
      right
      intro hh
      apply hp
      omega
theorem all255_leB (w : Nat) : el_ (leB (-1) w) = true := by
 unfold el_ leB leL b8_
 rw [List.all_eq_true]
 intro x hx
 simp only [List.mem_map, List.mem_range] at hx
 obtain ⟨n, ⟨i, _, rfl⟩, rfl⟩ := hx
 rw [lO_]
 rfl
theorem o2_ : ∀ (s : Str), el_ s = true → leV s = 2 ^ (8 * s.length) - 1
 | [], _ => rfl
 | b :: r, h => by
  unfold el_ at h
  simp only [List.all_cons, Bool.and_eq_true, beq_iff_eq] at h
  have ih := o2_ r h.2
  obtain ⟨h1, _⟩ := h
  subst h1
  simp only [leV, ih, List.length_cons]
  rw [show 8 * (r.length + 1) = 8 * r.length + 8 by omega, Nat.pow_add]
  have := Nat.two_pow_pos (8 * r.length)
  rw [show (255 : UInt8).toNat = 255 from rfl]
  omega
theorem e7_ (n m : Int) (w : Nat) (h8 : w ≤ 8) (h1 : 1 ≤ w) (hok : dA_ n m = true) (hm : m < 9223372036854775807) (hmw : w < 8 → m < 2 ^ (8 * w) - 1) : e5_ (leB n w) = n := by
 unfold dA_ at hok
 simp only [Bool.or_eq_true, Bool.and_eq_true, beq_iff_eq, decide_eq_true_eq] at hok
 unfold e5_
 rcases hok with rfl | ⟨h0, hle⟩
 ·rw [if_pos (all255_leB w)]
 ·obtain ⟨k, rfl⟩ : ∃ k : Nat, n = (k : Int) := ⟨n.toNat, by omega⟩
  have hp : (2 : Nat) ^ (8 * w) ≤ 2 ^ 64 := Nat.pow_le_pow_right (by omega) (by omega)
  have hlt : k + 1 < 2 ^ (8 * w) := by
   by_cases hw : w < 8
   ·have := hmw hw
    have hc : ((2 : Int) ^ (8 * w)) = ((2 ^ (8 * w) : Nat) : Int) := by simp
    rw [hc] at this
    omega
   ·have : w = 8 := by omega
    subst this
    omega
  have hv := ib_ w k (by omega)
  rw [if_neg, hv, if_neg (by omega)]
  intro ha
  have := o2_ _ ha
  rw [hv, ap_] at this
  omega
theorem win_mid (a b c : Str) : win (a ++ b ++ c) a.length b.length = b := by
 simp [win]
theorem dD_ (s a b c : Str) (k n : Nat) (hs : s = a ++ b ++ c) (hk : a.length = k) (hn : b.length = n) : win s k n = b := by
 subst hs; subst hk; subst hn; exact win_mid a b c
theorem hA_ (s a t c : Str) (k : Nat) (hs : s = a ++ bp_ t ++ c) (hk : a.length = k) (ht : t.length < 65536) : aU_ s k = some (t, k + 2 + t.length) := by
 have hl : s.length = k + 2 + t.length + c.length := by rw [hs]; simp [b4_]; omega
 have h1 : win s k 2 = leB (t.length : Int) 2 := dD_ s a (leB (t.length : Int) 2) (t ++ c) k 2 (by rw [hs]; simp [bp_]) hk (ap_ _ _)
 have h2 : leV (win s k 2) = t.length := by rw [h1]; exact ib_ 2 t.length (by omega)
 have h3 : win s (k + 2) t.length = t := dD_ s (a ++ leB (t.length : Int) 2) t c (k + 2) t.length (by rw [hs]; simp [bp_]) (by simp [ap_, hk]) rfl
 unfold aU_
 rw [h2, h3, if_neg (by omega), if_neg (by omega)]
theorem take4_body (x : api_Dir) (hl : x.Name_.length ≤ 64 ∧ x.Uid_.length ≤ 64 ∧ x.Gid_.length ≤ 64 ∧ x.Muid_.length ≤ 64) : e6_ (aD_ x) 47 = some (x.Name_, x.Uid_, x.Gid_, x.Muid_, (aD_ x).length) := by
 have h1 := hA_ (aD_ x) (cL_ x) x.Name_ (bp_ x.Uid_ ++ bp_ x.Gid_ ++ bp_ x.Muid_) 47 (by simp [aD_]) (hd_ x) (by omega)
 have h2 := hA_ (aD_ x) (cL_ x ++ bp_ x.Name_) x.Uid_ (bp_ x.Gid_ ++ bp_ x.Muid_) (47 + 2 + x.Name_.length) (by simp [aD_]) (by simp [hd_, b4_]; omega) (by omega)
 have h3 := hA_ (aD_ x) (cL_ x ++ bp_ x.Name_ ++ bp_ x.Uid_) x.Gid_ (bp_ x.Muid_) (47 + 2 + x.Name_.length + 2 + x.Uid_.length) (by simp [aD_]) (by simp [hd_, b4_]; omega) (by omega)
 have h4 := hA_ (aD_ x) (cL_ x ++ bp_ x.Name_ ++ bp_ x.Uid_ ++ bp_ x.Gid_) x.Muid_ [] (47 + 2 + x.Name_.length + 2 + x.Uid_.length + 2 + x.Gid_.length) (by simp [aD_]) (by simp [hd_, b4_]; omega) (by omega)
 unfold e6_
 rw [h1]
 simp only
 rw [h2]
 simp only
 rw [h3]
 simp only
 rw [h4]
 simp only [Option.some.injEq, Prod.mk.injEq, true_and]
 rw [iO_]
 omega
theorem dirF_body (x : api_Dir) (h : cc_ x = true) (hx : x.ok) : ev_ (aD_ x) x.Name_ x.Uid_ x.Gid_ x.Muid_ = x := by
 have b1 := ic_ x.Qid_.Type_ 232 (by omega) hx.2.2.1.1.2
 have b2 := ic_ x.Mode_ 3892314623 (by omega) hx.2.2.2.1.2
 simp only [Int.cast_ofNat_Int] at b1 b2
 unfold cc_ at h
 simp only [Bool.and_eq_true] at h
 obtain ⟨⟨⟨⟨⟨⟨⟨⟨o0, o1⟩, o2⟩, o3⟩, o4⟩, o5⟩, o6⟩, o7⟩, o8⟩ := h
 have g0 := e7_ _ _ 2 (by omega) (by omega) o0 (by omega) (fun _ => by show (65534 : Int) < 2 ^ 16 - 1; omega)
 have g1 := e7_ _ _ 4 (by omega) (by omega) o1 (by omega) (fun _ => by show (4294967294 : Int) < 2 ^ 32 - 1; omega)
 have g2 := e7_ _ _ 1 (by omega) (by omega) (b1 o2) (by omega) (fun _ => by show (232 : Int) < 2 ^ 8 - 1; omega)
 have g3 := e7_ _ _ 4 (by omega) (by omega) o3 (by omega) (fun _ => by show (2147483647 : Int) < 2 ^ 32 - 1; omega)
 have g4 := e7_ _ _ 8 (by omega) (by omega) o4 (by omega) (fun hh => by omega)
 have g5 := e7_ _ _ 4 (by omega) (by omega) (b2 o5) (by omega) (fun _ => by show (3892314623 : Int) < 2 ^ 32 - 1; omega)
 have g6 := e7_ _ _ 8 (by omega) (by omega) o6 (by omega) (fun hh => by omega)
 have g7 := e7_ _ _ 8 (by omega) (by omega) o7 (by omega) (fun hh => by omega)
 have g8 := e7_ _ _ 8 (by omega) (by omega) o8 (by omega) (fun hh => by omega)
 let T := bp_ x.Name_ ++ bp_ x.Uid_ ++ bp_ x.Gid_ ++ bp_ x.Muid_
 have w0 : win (aD_ x) 0 2 = leB x.Type_ 2 := dD_ _ [] _ (leB x.Dev_ 4 ++ leB x.Qid_.Type_ 1 ++ leB x.Qid_.Vers_ 4 ++ leB x.Qid_.Path_ 8 ++ leB x.Mode_ 4 ++ leB x.Atime_ 8 ++ leB x.Mtime_ 8 ++ leB x.Length_ 8 ++ T) 0 2 (by simp [aD_, cL_, T]) rfl (ap_ _ _)
 have w1 : win (aD_ x) 2 4 = leB x.Dev_ 4 := dD_ _ (leB x.Type_ 2) _ (leB x.Qid_.Type_ 1 ++ leB x.Qid_.Vers_ 4 ++ leB x.Qid_.Path_ 8 ++ leB x.Mode_ 4 ++ leB x.Atime_ 8 ++ leB x.Mtime_ 8 ++ leB x.Length_ 8 ++ T) 2 4 (by simp [aD_, cL_, T]) (by simp [ap_]) (ap_ _ _)
 have w2 : win (aD_ x) 6 1 = leB x.Qid_.Type_ 1 := dD_ _ (leB x.Type_ 2 ++ leB x.Dev_ 4) _ (leB x.Qid_.Vers_ 4 ++ leB x.Qid_.Path_ 8 ++ leB x.Mode_ 4 ++ leB x.Atime_ 8 ++ leB x.Mtime_ 8 ++ leB x.Length_ 8 ++ T) 6 1 (by simp [aD_, cL_, T]) (by simp [ap_]) (ap_ _ _)
 have w3 : win (aD_ x) 7 4 = leB x.Qid_.Vers_ 4 := dD_ _ (leB x.Type_ 2 ++ leB x.Dev_ 4 ++ leB x.Qid_.Type_ 1) _ (leB x.Qid_.Path_ 8 ++ leB x.Mode_ 4 ++ leB x.Atime_ 8 ++ leB x.Mtime_ 8 ++ leB x.Length_ 8 ++ T) 7 4 (by simp [aD_, cL_, T]) (by simp [ap_]) (ap_ _ _)
 have w4 : win (aD_ x) 11 8 = leB x.Qid_.Path_ 8 := dD_ _ (leB x.Type_ 2 ++ leB x.Dev_ 4 ++ leB x.Qid_.Type_ 1 ++ leB x.Qid_.Vers_ 4) _ (leB x.Mode_ 4 ++ leB x.Atime_ 8 ++ leB x.Mtime_ 8 ++ leB x.Length_ 8 ++ T) 11 8 (by simp [aD_, cL_, T]) (by simp [ap_]) (ap_ _ _)
 have w5 : win (aD_ x) 19 4 = leB x.Mode_ 4 := dD_ _ (leB x.Type_ 2 ++ leB x.Dev_ 4 ++ leB x.Qid_.Type_ 1 ++ leB x.Qid_.Vers_ 4 ++ leB x.Qid_.Path_ 8) _ (leB x.Atime_ 8 ++ leB x.Mtime_ 8 ++ leB x.Length_ 8 ++ T) 19 4 (by simp [aD_, cL_, T]) (by simp [ap_]) (ap_ _ _)
 have w6 : win (aD_ x) 23 8 = leB x.Atime_ 8 := dD_ _ (leB x.Type_ 2 ++ leB x.Dev_ 4 ++ leB x.Qid_.Type_ 1 ++ leB x.Qid_.Vers_ 4 ++ leB x.Qid_.Path_ 8 ++ leB x.Mode_ 4) _ (leB x.Mtime_ 8 ++ leB x.Length_ 8 ++ T) 23 8 (by simp [aD_, cL_, T]) (by simp [ap_]) (ap_ _ _)
 have w7 : win (aD_ x) 31 8 = leB x.Mtime_ 8 := dD_ _ (leB x.Type_ 2 ++ leB x.Dev_ 4 ++ leB x.Qid_.Type_ 1 ++ leB x.Qid_.Vers_ 4 ++ leB x.Qid_.Path_ 8 ++ leB x.Mode_ 4 ++ leB x.Atime_ 8) _ (leB x.Length_ 8 ++ T) 31 8 (by simp [aD_, cL_, T]) (by simp [ap_]) (ap_ _ _)
 have w8 : win (aD_ x) 39 8 = leB x.Length_ 8 := dD_ _ (leB x.Type_ 2 ++ leB x.Dev_ 4 ++ leB x.Qid_.Type_ 1 ++ leB x.Qid_.Vers_ 4 ++ leB x.Qid_.Path_ 8 ++ leB x.Mode_ 4 ++ leB x.Atime_ 8 ++ leB x.Mtime_ 8) _ T 39 8 (by simp [aD_, cL_, T]) (by simp [ap_]) (ap_ _ _)
 unfold ev_
 rw [w0, w1, w2, w3, w4, w5, w6, w7, w8, g0, g1, g2, g3, g4, g5, g6, g7, g8]
theorem getR_put (p q : Str) (x : api_Dir) (hx : x.ok) (hc : bi_ x = 0) : getR (p ++ bf_ x ++ q) p.length = (x, ((p.length + (bf_ x).length : Nat) : Int), 0) := by
 obtain ⟨hN, hT⟩ := di_ x hc
 have htl := eQ_ x hT
 have hbl := iO_ x
 have hpl := j1_ x
 have h1 : win (p ++ bf_ x ++ q) p.length 2 = leB ((aD_ x).length : Int) 2 := dD_ _ p _ (aD_ x ++ q) _ _ (by simp [bf_]) rfl (ap_ _ _)
 have h2 : leV (win (p ++ bf_ x ++ q) p.length 2) = (aD_ x).length := by rw [h1]; exact ib_ 2 _ (by omega)
 have h3 : win (p ++ bf_ x ++ q) (p.length + 2) (aD_ x).length = aD_ x := dD_ _ (p ++ leB ((aD_ x).length : Int) 2) _ q _ _ (by simp [bf_]) (by simp [ap_]) rfl
 have hl : (p ++ bf_ x ++ q).length = p.length + (bf_ x).length + q.length := by simp; omega
 unfold getR
 rw [h2, h3, if_neg (by omega), if_neg (by omega), if_neg (by omega), take4_body x htl]
 simp only
 rw [if_pos trivial, dirF_body x hN hx, if_pos hc, show p.length + 2 + (aD_ x).length = p.length + (bf_ x).length by omega]
theorem kx_ (s : Str) (a n m : Nat) : win s a (n + m) = win s a n ++ win s (a + n) m := by
 unfold win
 rw [← List.drop_drop, List.take_add]
theorem bU_ (s : Str) (a n m b k : Nat) (h : b = a + n) (hk : k = n + m) : win s a n ++ win s b m = win s a k := by
 subst h; subst hk; exact (kx_ s a n m).symm
theorem hB_ {s t : Str} {a p : Nat} (h : aU_ s a = some (t, p)) : bp_ t = win s a (p - a) ∧ p = a + 2 + t.length ∧ t.length < 65536 ∧ p ≤ s.length := by
 have h0 := h
 unfold aU_ at h
 split at h
 ·cases h
 ·split at h
  ·cases h
  ·rename_i h1 h2
   simp only [Option.some.injEq, Prod.mk.injEq] at h
   obtain ⟨rfl, rfl⟩ := h
   have hl : (win s (a + 2) (leV (win s a 2))).length = leV (win s a 2) := by_ (by omega)
   have hv := fu_ s a (by omega)
   refine ⟨?_, by omega, by omega, by omega⟩
   rw [show a + 2 + leV (win s a 2) - a = 2 + leV (win s a 2) by omega, kx_]
   unfold bp_
   rw [hl]
   have := na_ (win s a 2)
   rw [by_ (by omega)] at this
   rw [this]
theorem e8_ (y : Str) (w : Nat) (hw : y.length = w) (h : dY_ y ≠ -2) : leB (dY_ y) w = y := by
 unfold dY_ at *
 split
 ·rename_i h255
  subst hw
  have key : ∀ (y : Str), el_ y = true → y = List.replicate y.length 255 := by
   intro y
   induction y with
   | nil => intro _; rfl
   | cons b y ih =>
    intro h
    unfold el_ at h
    simp only [List.all_cons, Bool.and_eq_true, beq_iff_eq] at h
    obtain ⟨rfl, h2⟩ := h
    rw [List.length_cons, List.replicate_succ, ← ih h2]
  rw [key y h255, List.length_replicate]
  unfold leB leL b8_
  apply List.ext_getElem
  ·simp
  ·intro i h1 h2
   simp only [List.getElem_map, List.getElem_range, List.getElem_replicate]
   rw [lO_]
   rfl
 ·rename_i h255
  rw [if_neg h255] at h
  split at h
  ·exact absurd rfl h
  ·rename_i hle
   rw [if_neg hle]
   subst hw
   exact na_ y
theorem putB_getR (y : Str) (d : api_Dir) (h : getR y 0 = (d, (y.length : Int), 0)) : bi_ d = 0 ∧ bf_ d = y := by
 unfold getR at h
 split at h
 ·simp at h
 ·split at h
  ·simp at h
  ·split at h
   ·simp at h
   ·rename_i h1 h2 h3
    split at h
    ·simp at h
    ·rename_i t1 t2 t3 t4 p ht
     split at h
     ·rename_i hp
      split at h
      ·rename_i hc
       simp only [Prod.mk.injEq, and_true] at h
       obtain ⟨rfl, hend⟩ := h
       refine ⟨hc, ?_⟩
       have hend' : 2 + leV (win y 0 2) = y.length := by omega
       have hv : (win y (0 + 2) (leV (win y 0 2))).length = leV (win y 0 2) := by_ (by omega)
       generalize hz : win y (0 + 2) (leV (win y 0 2)) = z at *
       have hdR := (dir_check z t1 t2 t3 t4 (by omega)).2 hc
       rw [← hdR]
       have hbody : aD_ (dirR z t1 t2 t3 t4) = z := by
        unfold e6_ at ht
        have hN := (di_ _ hc).1
        rw [← hdR] at hN
        have hne : ∀ (x m : Int), dA_ x m = true → x ≠ -2 := fun x m hx he => by subst he; simp [dA_] at hx
        have hneB : ∀ (x m : Int), cG_ x m = true → x ≠ -2 := fun x m hx he => by subst he; simp [cG_] at hx
        simp only [cc_, Bool.and_eq_true] at hN
        obtain ⟨⟨⟨⟨⟨⟨⟨⟨n0, n1⟩, n2⟩, n3⟩, n4⟩, n5⟩, n6⟩, n7⟩, n8⟩ := hN
        have w : ∀ a b, a + b ≤ z.length → (win z a b).length = b := fun a b h => by_ h
        have e0 := e8_ (win z 0 2) 2 (w 0 2 (by omega)) (hne _ _ n0)
        have e1 := e8_ (win z 2 4) 4 (w 2 4 (by omega)) (hne _ _ n1)
        have e2 := e8_ (win z 6 1) 1 (w 6 1 (by omega)) (hneB _ _ n2)
        have e3 := e8_ (win z 7 4) 4 (w 7 4 (by omega)) (hne _ _ n3)
        have e4 := e8_ (win z 11 8) 8 (w 11 8 (by omega)) (hne _ _ n4)
        have e5 := e8_ (win z 19 4) 4 (w 19 4 (by omega)) (hneB _ _ n5)
        have e6 := e8_ (win z 23 8) 8 (w 23 8 (by omega)) (hne _ _ n6)
        have e7 := e8_ (win z 31 8) 8 (w 31 8 (by omega)) (hne _ _ n7)
        have e8 := e8_ (win z 39 8) 8 (w 39 8 (by omega)) (hne _ _ n8)
        unfold aD_ cL_
        simp only [dirR]
        rw [e0, e1, e2, e3, e4, e5, e6, e7, e8]
        rw [bU_ z 0 2 4 2 6 rfl rfl, bU_ z 0 6 1 6 7 rfl rfl, bU_ z 0 7 4 7 11 rfl rfl, bU_ z 0 11 8 11 19 rfl rfl, bU_ z 0 19 4 19 23 rfl rfl, bU_ z 0 23 8 23 31 rfl rfl, bU_ z 0 31 8 31 39 rfl rfl, bU_ z 0 39 8 39 47 rfl rfl]
        cases g1 : aU_ z 47 with
        | none => rw [g1] at ht; cases ht
        | some q1 =>
         obtain ⟨u1, p1⟩ := q1
         rw [g1] at ht
         simp only at ht
         cases g2 : aU_ z p1 with
         | none => rw [g2] at ht; cases ht
         | some q2 =>
          obtain ⟨u2, p2⟩ := q2
          rw [g2] at ht
          simp only at ht
          cases g3 : aU_ z p2 with
          | none => rw [g3] at ht; cases ht
          | some q3 =>
           obtain ⟨u3, p3⟩ := q3
           rw [g3] at ht
           simp only at ht
           cases g4 : aU_ z p3 with
           | none => rw [g4] at ht; cases ht
           | some q4 =>
            obtain ⟨u4, p4⟩ := q4
            rw [g4] at ht
            simp only [Option.some.injEq, Prod.mk.injEq] at ht
            obtain ⟨rfl, rfl, rfl, rfl, rfl⟩ := ht
            obtain ⟨a1, b1, c1, d1⟩ := hB_ g1
            obtain ⟨a2, b2, c2, d2⟩ := hB_ g2
            obtain ⟨a3, b3, c3, d3⟩ := hB_ g3
            obtain ⟨a4, b4, c4, d4⟩ := hB_ g4
            rw [a1, a2, a3, a4, bU_ z 0 47 (p1 - 47) 47 p1 rfl (by omega), bU_ z 0 p1 (p2 - p1) p1 p2 (by omega) (by omega), bU_ z 0 p2 (p3 - p2) p2 p3 (by omega) (by omega), bU_ z 0 p3 (p4 - p3) p3 p4 (by omega) (by omega)]
            have : p4 = z.length := by omega
            rw [this]
            simp [win]
       unfold bf_
       rw [hbody, hv]
       have := na_ (win y 0 2)
       rw [by_ (by omega)] at this
       rw [this, ← hz]
       have := kx_ y 0 2 (leV (win y 0 2))
       rw [← this, hend']
       simp [win]
      ·rename_i hc
       simp only [Prod.mk.injEq] at h
       exact absurd h.2.2 hc
     ·simp at h
end Go.Proofs.YtolgkhjkdadhiaaGreat
namespace Go.Proofs.YtolgkhjkdadhiaaGreat
open Go.Rt Go.RowKit
abbrev MAXI : Nat := 9223372036854775807
def bc_ (n : Int) (w : Nat) : Option Str := if bx_ n w then some (leB n w) else none
def b6_ (s : Str) : Option Str := if s.length ≤ 65535 then some (bp_ s) else none
def dL_ (q : api_Qid) : Option Str := if bx_ q.Type_ 1 && bx_ q.Vers_ 4 && bx_ q.Path_ 8 then some (leB q.Type_ 1 ++ leB q.Vers_ 4 ++ leB q.Path_ 8) else none
def cn_ {α : Type} (f : α → Option Str) : List α → Option Str
 | [] => some []
 | x :: l => match f x, cn_ f l with
  | some a, some b => some (a ++ b)
  | _, _ => none
def encL {α : Type} (f : α → Option Str) (l : List α) : Option Str := if l.length ≤ 65535 then (cn_ f l).map (leB (l.length : Int) 2 ++ ·) else none
def encD (s : Str) (w : Nat) : Option Str := if bx_ (s.length : Int) w then some (leB (s.length : Int) w ++ s) else none
def encS (d : api_Dir) : Option Str := if bi_ d = 0 then some (leB ((bf_ d).length : Int) 2 ++ bf_ d) else none
def decN (y : Str) (a w : Nat) : Option (Nat × Nat) := if y.length < a + w then none else if leV (win y a w) > MAXI then none else some (leV (win y a w), a + w)
theorem gU_ {y : Str} {a w n p : Nat} (h : decN y a w = some (n, p)) (_ : w ≤ 8) : p = a + w ∧ p ≤ y.length ∧ n ≤ MAXI ∧ bc_ (n : Int) w = some (win y a w) := by
 unfold decN at h
 split at h
 ·cases h
 ·split at h
  ·cases h
  ·rename_i h1 h2
   simp only [Option.some.injEq, Prod.mk.injEq] at h
   obtain ⟨rfl, rfl⟩ := h
   refine ⟨rfl, by omega, by omega, ?_⟩
   have hl : (win y a w).length = w := by_ (by omega)
   have hv := fV_ (win y a w)
   rw [hl] at hv
   have hf : bx_ ((leV (win y a w) : Nat) : Int) w = true := by
    unfold bx_
    rw [Bool.and_eq_true, Bool.or_eq_true]
    refine ⟨by simp, .inr ?_⟩
    rw [decide_eq_true_eq]
    exact_mod_cast hv
   unfold bc_
   rw [if_pos hf]
   have := na_ (win y a w)
   rw [hl] at this
   rw [this]
theorem enc_decN {y t : Str} {n : Int} {a w : Nat} (h8 : w ≤ 8) (he : bc_ n w = some t) (hn : n ≤ 9223372036854775807) (ht : win y a t.length = t) (hy : a + t.length ≤ y.length) : t.length = w ∧ ∃ k : Nat, n = (k : Int) ∧ decN y a w = some (k, a + w) := by
 unfold bc_ at he
 split at he
 ·rename_i hf
  obtain rfl := Option.some.inj he
  rw [ap_] at ht hy ⊢
  refine ⟨rfl, ?_⟩
  unfold bx_ at hf
  simp only [Bool.and_eq_true, Bool.or_eq_true, decide_eq_true_eq] at hf
  obtain ⟨k, rfl⟩ : ∃ k : Nat, n = (k : Int) := ⟨n.toNat, by omega⟩
  have hk : k < 2 ^ (8 * w) := by
   rcases hf.2 with h | h
   ·have : w = 8 := by omega
    subst this
    show k < 18446744073709551616
    omega
   ·exact_mod_cast h
  refine ⟨k, rfl, ?_⟩
  unfold decN
  rw [if_neg (by omega), ht, ib_ w k hk, if_neg (by show ¬ k > 9223372036854775807; omega)]
 ·cases he
theorem rnum (y : Str) (a w : Nat) (h1 : 1 ≤ w) (h8 : w ≤ 8) (h : a ≤ y.length) (hs : y.length ≤ 1000000) :
  al_ ⟨y, (a : Int), true⟩ (w : Int) = some (match decN y a w with | none => (0, ⟨y, (a : Int), false⟩) | some (n, p) => ((n : Int), ⟨y, (p : Int), true⟩)) := by
 unfold al_ decN
 refine ab_ rfl ?_
 refine aa_ (fW_ y a w h1 h8 h (by omega)) ?_
 by_cases hlt : y.length < a + w
 ·rw [if_pos (by omega), if_pos hlt]
  exact ac_ rfl rfl
 ·rw [if_neg (by omega), if_neg hlt]
  by_cases hv : leV (win y a w) > 9223372036854775807
  ·rw [if_pos hv, if_pos hv]
   exact ac_ rfl rfl
  ·rw [if_neg hv, if_neg hv]
   exact ab_ rfl rfl
theorem fv_ (y : Str) (a w : Int) : al_ ⟨y, a, false⟩ w = some (0, ⟨y, a, false⟩) := by
 unfold al_
 exact ac_ rfl rfl
theorem rtext (y : Str) (a : Nat) (h : a ≤ y.length) (hs : y.length ≤ 1000000) :
  aG_ ⟨y, (a : Int), true⟩ = some (match aU_ y a with | none => ([], ⟨y, (a : Int), false⟩) | some (t, p) => (t, ⟨y, (p : Int), true⟩)) := by
 unfold aG_
 refine ab_ rfl ?_
 refine aa_ (lQ_ y a h hs) ?_
 cases aU_ y a with
 | none => exact ac_ rfl rfl
 | some q => exact ab_ rfl rfl
theorem rtext_no (y : Str) (a : Int) : aG_ ⟨y, a, false⟩ = some ([], ⟨y, a, false⟩) := by
 unfold aG_
 exact ac_ rfl rfl
theorem mH_ {y t : Str} {a p : Nat} (h : aU_ y a = some (t, p)) : p ≤ y.length ∧ a ≤ p ∧ b6_ t = some (win y a (p - a)) := by
 obtain ⟨h1, h2, h3, h4⟩ := hB_ h
 refine ⟨h4, by omega, ?_⟩
 unfold b6_
 rw [if_pos (by omega), h1]
theorem enc_takeT {y s t : Str} {a : Nat} (he : b6_ s = some t) (ht : win y a t.length = t) (hy : a + t.length ≤ y.length) : aU_ y a = some (s, a + t.length) := by
 unfold b6_ at he
 split at he
 ·rename_i hl
  obtain rfl := Option.some.inj he
  have h0 : y = y.take a ++ bp_ s ++ y.drop (a + (bp_ s).length) := by
   have h1 := List.take_append_drop a y
   have h2 := List.take_append_drop (bp_ s).length (y.drop a)
   unfold win at ht
   rw [ht, List.drop_drop] at h2
   rw [List.append_assoc, h2, h1]
  have := hA_ y (y.take a) s (y.drop (a + (bp_ s).length)) a h0 (by rw [List.length_take]; omega) (by omega)
  rw [this, b4_]
  congr 2
  omega
 ·cases he
theorem rqid (y : Str) (a : Nat) (h : a ≤ y.length) (hs : y.length ≤ 1000000) : ∃ q r, aZ_ ⟨y, (a : Int), true⟩ = some (q, r) ∧ r.s_ = y ∧ ((r.ok_ = true ∧ ∃ p : Nat, r.at_ = (p : Int) ∧ a ≤ p ∧ p ≤ y.length ∧ dL_ q = some (win y a (p - a))) ∨ r.ok_ = false) := by
 unfold aZ_
 have e1 := rnum y a 1 (by omega) (by omega) h hs
 rw [show ((1 : Nat) : Int) = 1 from rfl] at e1
 cases d1 : decN y a 1 with
 | none =>
  rw [d1] at e1
  exact ⟨_, _, aa_ e1 (aa_ (fv_ _ _ _) (aa_ (fv_ _ _ _) rfl)), rfl, .inr rfl⟩
 | some q1 =>
  obtain ⟨n1, p1⟩ := q1
  rw [d1] at e1
  obtain ⟨a1, b1, c1, g1⟩ := gU_ d1 (by omega)
  have e2 := rnum y p1 4 (by omega) (by omega) b1 hs
  rw [show ((4 : Nat) : Int) = 4 from rfl] at e2
  cases d2 : decN y p1 4 with
  | none =>
   rw [d2] at e2
   exact ⟨_, _, aa_ e1 (aa_ e2 (aa_ (fv_ _ _ _) rfl)), rfl, .inr rfl⟩
  | some q2 =>
   obtain ⟨n2, p2⟩ := q2
   rw [d2] at e2
   obtain ⟨a2, b2, c2, g2⟩ := gU_ d2 (by omega)
   have e3 := rnum y p2 8 (by omega) (by omega) b2 hs
   rw [show ((8 : Nat) : Int) = 8 from rfl] at e3
   cases d3 : decN y p2 8 with
   | none =>
    rw [d3] at e3
    exact ⟨_, _, aa_ e1 (aa_ e2 (aa_ e3 rfl)), rfl, .inr rfl⟩
   | some q3 =>
    obtain ⟨n3, p3⟩ := q3
    rw [d3] at e3
    obtain ⟨a3, b3, c3, g3⟩ := gU_ d3 (by omega)
    refine ⟨_, _, aa_ e1 (aa_ e2 (aa_ e3 rfl)), rfl, .inl ⟨rfl, p3, rfl, by omega, b3, ?_⟩⟩
    unfold bc_ at g1 g2 g3
    split at g1
    ·split at g2
     ·split at g3
      ·rename_i f1 f2 f3
       have g1 := Option.some.inj g1
       have g2 := Option.some.inj g2
       have g3 := Option.some.inj g3
       unfold dL_
       show (if bx_ (n1 : Int) 1 && bx_ (n2 : Int) 4 && bx_ (n3 : Int) 8 then some (leB (n1 : Int) 1 ++ leB (n2 : Int) 4 ++ leB (n3 : Int) 8) else none) = _
       rw [f1, f2, f3, g1, g2, g3, bU_ y a 1 4 p1 5 a1 rfl, bU_ y a 5 8 p2 (p3 - a) (by omega) (by omega)]
       rfl
      ·cases g3
     ·cases g2
    ·cases g1
theorem rqid_no (y : Str) (a : Int) : ∃ q, aZ_ ⟨y, a, false⟩ = some (q, ⟨y, a, false⟩) := by
 unfold aZ_
 exact ⟨_, aa_ (fv_ _ _ _) (aa_ (fv_ _ _ _) (aa_ (fv_ _ _ _) rfl))⟩
theorem win_in {y t u v : Str} {a : Nat} (h : win y a (t ++ u).length = t ++ u) (_ : (t ++ u).length = v.length) (_ : v = t ++ u) : win y a t.length = t ∧ win y (a + t.length) u.length = u := by
 rw [List.length_append, kx_] at h
 have h1 : (win y a t.length).length = t.length := by
  have h3 := congrArg List.length h
  rw [List.length_append, List.length_append] at h3
  have h4 : (win y a t.length).length ≤ t.length := by unfold win; rw [List.length_take]; omega
  have h5 : (win y (a + t.length) u.length).length ≤ u.length := by unfold win; rw [List.length_take]; omega
  omega
 exact List.append_inj h h1
end Go.Proofs.YtolgkhjkdadhiaaGreat
namespace Go.Proofs.YtolgkhjkdadhiaaGreat
open Go.Rt Go.RowKit
theorem n0_ {α : Type} {f : α → Option Str} : ∀ {l m : List α} {a b : Str}, cn_ f l = some a → cn_ f m = some b → cn_ f (l ++ m) = some (a ++ b)
 | [], m, a, b, h1, h2 => by
  obtain rfl := Option.some.inj h1
  exact h2
 | x :: l, m, a, b, h1, h2 => by
  simp only [cn_] at h1
  split at h1
  ·rename_i u v hu hv
   obtain rfl := Option.some.inj h1
   have := n0_ hv h2
   simp only [List.cons_append, cn_, hu, this, List.append_assoc]
  ·cases h1
theorem encs_one {α : Type} {f : α → Option Str} {x : α} {a : Str} (h : f x = some a) : cn_ f [x] = some a := by
 simp [cn_, h]
def Rd {α : Type} (y : Str) (a : Nat) (enc : α → Option Str) (x : α) (r : wire_reader) : Prop := r.s_ = y ∧ ((r.ok_ = true ∧ ∃ p : Nat, r.at_ = (p : Int) ∧ a ≤ p ∧ p ≤ y.length ∧ enc x = some (win y a (p - a))) ∨ r.ok_ = false)
theorem mI_ {r : wire_reader} {y : Str} {p : Nat} (h1 : r.s_ = y) (h2 : r.at_ = (p : Int)) (h3 : r.ok_ = true) : r = ⟨y, (p : Int), true⟩ := by
 cases r; simp_all
theorem o3_ (y : Str) (hs : y.length ≤ 1000000) (a : Nat) : ∀ (k fuel p : Nat) (acc : List Str), k < fuel → p ≤ y.length → a ≤ p → acc.length + k ≤ 65535 → cn_ b6_ acc = some (win y a (p - a)) →
  ∃ l r, an_ aC_ fuel ((k : Int), ⟨y, (p : Int), true⟩, acc) = some (l, r) ∧ r.s_ = y ∧ ((r.ok_ = true ∧ l.length = acc.length + k ∧ ∃ q : Nat, r.at_ = (q : Int) ∧ a ≤ q ∧ q ≤ y.length ∧ cn_ b6_ l = some (win y a (q - a))) ∨ r.ok_ = false)
 | 0, fuel + 1, p, acc, _, hp, ha, _, he => by
  refine ⟨acc, ⟨y, (p : Int), true⟩, ar_ ?_, rfl, .inl ⟨rfl, rfl, p, rfl, ha, hp, he⟩⟩
  unfold aC_
  exact ab_ rfl rfl
 | k + 1, fuel + 1, p, acc, hk, hp, ha, hl, he => by
  have e1 := rtext y p hp hs
  have hroom : ∀ t : Str, bF_ 16 acc [t] = some (acc ++ [t]) := fun t => bm_ (by simp; omega) (by simp; omega)
  have hw : w64 (((k + 1 : Nat) : Int) - 1) = (k : Int) := by rw [am_ ⟨by omega, by omega⟩]; omega
  have hc : (decide (((k + 1 : Nat) : Int) > 0) && true) = true := by simp <;> omega
  cases d1 : aU_ y p with
  | none =>
   rw [d1] at e1
   cases fuel with
   | zero => omega
   | succ fuel =>
    refine ⟨acc ++ [[]], ⟨y, (p : Int), false⟩, ay_ (s' := ((k : Int), ⟨y, (p : Int), false⟩, acc ++ [[]])) ?_ (ar_ ?_), rfl, .inr rfl⟩
    ·unfold aC_
     refine ac_ hc (aa_ e1 (aa_ (hroom _) ?_))
     rw [← hw]
    ·unfold aC_
     exact ab_ (by simp) rfl
  | some q =>
   obtain ⟨t, p1⟩ := q
   rw [d1] at e1
   obtain ⟨h1, h2, h3⟩ := mH_ d1
   obtain ⟨l, r, g1, g2, g3⟩ := o3_ y hs a k fuel p1 (acc ++ [t]) (by omega) h1 (by omega) (by simp; omega) (by
    have := n0_ he (encs_one h3)
    rw [bU_ y a (p - a) (p1 - p) p (p1 - a) (by omega) (by omega)] at this
    exact this)
   refine ⟨l, r, ay_ ?_ g1, g2, ?_⟩
   ·unfold aC_
    refine ac_ hc (aa_ e1 (aa_ (hroom _) ?_))
    rw [← hw]
   ·rcases g3 with ⟨g4, g5, g6⟩ | g3
    ·exact .inl ⟨g4, by rw [g5]; simp; omega, g6⟩
    ·exact .inr g3
theorem rnames (y : Str) (a : Nat) (h : a ≤ y.length) (hs : y.length ≤ 1000000) : ∃ l r, bb_ ⟨y, (a : Int), true⟩ = some (l, r) ∧ Rd y a (encL b6_) l r := by
 have hB : BIG = 18446744073709551616 := rfl
 unfold bb_
 have e1 := rnum y a 2 (by omega) (by omega) h hs
 rw [show ((2 : Nat) : Int) = 2 from rfl] at e1
 cases d1 : decN y a 2 with
 | none =>
  rw [d1] at e1
  refine ⟨[], ⟨y, (a : Int), false⟩, aa_ e1 (aa_ (a := ([], ⟨y, (a : Int), false⟩)) ?_ rfl), rfl, .inr rfl⟩
  rw [show BIG = 18446744073709551615 + 1 from rfl]
  refine ar_ ?_
  unfold aC_
  exact ab_ rfl rfl
 | some q1 =>
  obtain ⟨n1, p1⟩ := q1
  rw [d1] at e1
  obtain ⟨a1, b1, c1, g1⟩ := gU_ d1 (by omega)
  have hn : n1 ≤ 65535 := by
   unfold decN at d1
   split at d1
   ·cases d1
   ·split at d1
    ·cases d1
    ·simp only [Option.some.injEq, Prod.mk.injEq] at d1
     obtain ⟨rfl, _⟩ := d1
     have := fu_ y a (by omega)
     omega
  obtain ⟨l, r, k1, k2, k3⟩ := o3_ y hs p1 n1 BIG p1 [] (by omega) b1 (Nat.le_refl _) (by simpa using hn) (by simp [cn_, win])
  refine ⟨l, r, aa_ e1 (aa_ k1 rfl), k2, ?_⟩
  rcases k3 with ⟨k4, k5, p2, k6, k7, k8, k9⟩ | k3
  ·refine .inl ⟨k4, p2, k6, by omega, k8, ?_⟩
   unfold encL
   have hl : l.length = n1 := by simpa using k5
   rw [if_pos (by omega), k9, hl]
   unfold bc_ at g1
   split at g1
   ·have g1 := Option.some.inj g1
    rw [g1, Option.map_some, bU_ y a 2 (p2 - p1) p1 (p2 - a) (by omega) (by omega)]
   ·cases g1
  ·exact .inr k3
theorem qids_loop (y : Str) (hs : y.length ≤ 1000000) (a : Nat) : ∀ (k fuel p : Nat) (acc : List api_Qid), k < fuel → p ≤ y.length → a ≤ p → acc.length + k ≤ 65535 → cn_ dL_ acc = some (win y a (p - a)) →
  ∃ l r, an_ aF_ fuel ((k : Int), ⟨y, (p : Int), true⟩, acc) = some (l, r) ∧ r.s_ = y ∧ ((r.ok_ = true ∧ l.length = acc.length + k ∧ ∃ q : Nat, r.at_ = (q : Int) ∧ a ≤ q ∧ q ≤ y.length ∧ cn_ dL_ l = some (win y a (q - a))) ∨ r.ok_ = false)
 | 0, fuel + 1, p, acc, _, hp, ha, _, he => by
  refine ⟨acc, ⟨y, (p : Int), true⟩, ar_ ?_, rfl, .inl ⟨rfl, rfl, p, rfl, ha, hp, he⟩⟩
  unfold aF_
  exact ab_ rfl rfl
 | k + 1, fuel + 1, p, acc, hk, hp, ha, hl, he => by
  obtain ⟨t, r0, e1, hy0, hr0⟩ := rqid y p hp hs
  have hroom : ∀ t : api_Qid, bF_ 24 acc [t] = some (acc ++ [t]) := fun t => bm_ (by simp; omega) (by simp; omega)
  have hw : w64 (((k + 1 : Nat) : Int) - 1) = (k : Int) := by rw [am_ ⟨by omega, by omega⟩]; omega
  have hc : (decide (((k + 1 : Nat) : Int) > 0) && true) = true := by simp <;> omega
  rcases hr0 with ⟨hok, p1, hat, h2, h1, h3⟩ | hno
  ·obtain rfl := mI_ hy0 hat hok
   obtain ⟨l, r, g1, g2, g3⟩ := qids_loop y hs a k fuel p1 (acc ++ [t]) (by omega) h1 (by omega) (by simp; omega) (by
    have := n0_ he (encs_one h3)
    rw [bU_ y a (p - a) (p1 - p) p (p1 - a) (by omega) (by omega)] at this
    exact this)
   refine ⟨l, r, ay_ ?_ g1, g2, ?_⟩
   ·unfold aF_
    refine ac_ hc (aa_ e1 (aa_ (hroom _) ?_))
    rw [← hw]
   ·rcases g3 with ⟨g4, g5, g6⟩ | g3
    ·exact .inl ⟨g4, by rw [g5]; simp; omega, g6⟩
    ·exact .inr g3
  ·cases fuel with
   | zero => omega
   | succ fuel =>
    refine ⟨acc ++ [t], r0, ay_ (s' := ((k : Int), r0, acc ++ [t])) ?_ (ar_ ?_), hy0, .inr hno⟩
    ·unfold aF_
     refine ac_ hc (aa_ e1 (aa_ (hroom _) ?_))
     rw [← hw]
    ·unfold aF_
     exact ab_ (by simp [hno]) rfl
theorem rqids (y : Str) (a : Nat) (h : a ≤ y.length) (hs : y.length ≤ 1000000) : ∃ l r, bk_ ⟨y, (a : Int), true⟩ = some (l, r) ∧ Rd y a (encL dL_) l r := by
 have hB : BIG = 18446744073709551616 := rfl
 unfold bk_
 have e1 := rnum y a 2 (by omega) (by omega) h hs
 rw [show ((2 : Nat) : Int) = 2 from rfl] at e1
 cases d1 : decN y a 2 with
 | none =>
  rw [d1] at e1
  refine ⟨[], ⟨y, (a : Int), false⟩, aa_ e1 (aa_ (a := ([], ⟨y, (a : Int), false⟩)) ?_ rfl), rfl, .inr rfl⟩
  rw [show BIG = 18446744073709551615 + 1 from rfl]
  refine ar_ ?_
  unfold aF_
  exact ab_ rfl rfl
 | some q1 =>
  obtain ⟨n1, p1⟩ := q1
  rw [d1] at e1
  obtain ⟨a1, b1, c1, g1⟩ := gU_ d1 (by omega)
  have hn : n1 ≤ 65535 := by
   unfold decN at d1
   split at d1
   ·cases d1
   ·split at d1
    ·cases d1
    ·simp only [Option.some.injEq, Prod.mk.injEq] at d1
     obtain ⟨rfl, _⟩ := d1
     have := fu_ y a (by omega)
     omega
  obtain ⟨l, r, k1, k2, k3⟩ := qids_loop y hs p1 n1 BIG p1 [] (by omega) b1 (Nat.le_refl _) (by simpa using hn) (by simp [cn_, win])
  refine ⟨l, r, aa_ e1 (aa_ k1 rfl), k2, ?_⟩
  rcases k3 with ⟨k4, k5, p2, k6, k7, k8, k9⟩ | k3
  ·refine .inl ⟨k4, p2, k6, by omega, k8, ?_⟩
   unfold encL
   have hl : l.length = n1 := by simpa using k5
   rw [if_pos (by omega), k9, hl]
   unfold bc_ at g1
   split at g1
   ·have g1 := Option.some.inj g1
    rw [g1, Option.map_some, bU_ y a 2 (p2 - p1) p1 (p2 - a) (by omega) (by omega)]
   ·cases g1
  ·exact .inr k3
theorem rdata (y : Str) (a w : Nat) (h1 : 1 ≤ w) (h8 : w ≤ 8) (h : a ≤ y.length) (hs : y.length ≤ 1000000) : ∃ s r, aK_ ⟨y, (a : Int), true⟩ (w : Int) = some (s, r) ∧ Rd y a (encD · w) s r := by
 unfold aK_
 have e1 := rnum y a w h1 h8 h hs
 cases d1 : decN y a w with
 | none =>
  rw [d1] at e1
  exact ⟨_, _, aa_ e1 (ac_ rfl rfl), rfl, .inr rfl⟩
 | some q1 =>
  obtain ⟨n1, p1⟩ := q1
  rw [d1] at e1
  obtain ⟨a1, b1, c1, g1⟩ := gU_ d1 h8
  have hc1 : n1 ≤ 9223372036854775807 := c1
  have ew : w64 ((y.length : Int) - (p1 : Int)) = ((y.length - p1 : Nat) : Int) := by rw [am_ ⟨by omega, by omega⟩]; omega
  by_cases hlt : n1 > y.length - p1
  ·refine ⟨[], ⟨y, (p1 : Int), false⟩, aa_ e1 (ac_ ?_ rfl), rfl, .inr rfl⟩
   show (!true || decide ((n1 : Int) > w64 ((y.length : Int) - (p1 : Int)))) = true
   rw [ew]; simp; omega
  ·have ex : w64 ((p1 : Int) + (n1 : Int)) = ((p1 + n1 : Nat) : Int) := by rw [am_ ⟨by omega, by omega⟩]; omega
   have ey : w64 (((p1 + n1 : Nat) : Int) - (n1 : Int)) = (p1 : Int) := by rw [am_ ⟨by omega, by omega⟩]; omega
   refine ⟨win y p1 n1, ⟨y, ((p1 + n1 : Nat) : Int), true⟩, aa_ e1 (ab_ ?_ ?_), rfl, .inl ⟨rfl, p1 + n1, rfl, by omega, by show p1 + n1 ≤ y.length; omega, ?_⟩⟩
   ·show (!true || decide ((n1 : Int) > w64 ((y.length : Int) - (p1 : Int)))) = false
    rw [ew]; simp; omega
   ·show Option.bind (bO_ y (w64 (w64 ((p1 : Int) + (n1 : Int)) - (n1 : Int))) (w64 ((p1 : Int) + (n1 : Int)))) _ = _
    rw [ex, ey, ← ex]
    refine aa_ (db_ y p1 n1 (by omega) (by omega)) ?_
    show some (win y p1 n1, (⟨y, w64 ((p1 : Int) + (n1 : Int)), true⟩ : wire_reader)) = _
    rw [ex]
   ·have hl : (win y p1 n1).length = n1 := by_ (by omega)
    show encD (win y p1 n1) w = _
    unfold encD
    rw [hl]
    unfold bc_ at g1
    split at g1
    ·rename_i hf
     have g1 := Option.some.inj g1
     rw [if_pos hf, g1, bU_ y a w n1 p1 (p1 + n1 - a) a1 (by omega)]
    ·cases g1
theorem rdata_no (y : Str) (a w : Int) : ∃ s, aK_ ⟨y, a, false⟩ w = some (s, ⟨y, a, false⟩) := by
 unfold aK_
 exact ⟨_, aa_ (fv_ _ _ _) (ac_ rfl rfl)⟩
theorem rstat (y : Str) (a : Nat) (h : a ≤ y.length) (hs : y.length ≤ 1000000) : ∃ d r, bl_ ⟨y, (a : Int), true⟩ = some (d, r) ∧ Rd y a encS d r := by
 unfold bl_
 obtain ⟨s, r, e1, hy, hr⟩ := rdata y a 2 (by omega) (by omega) h hs
 rw [show ((2 : Nat) : Int) = 2 from rfl] at e1
 rcases hr with ⟨hok, p, hat, h1, h2, h3⟩ | hno
 ·obtain rfl := mI_ hy hat hok
  have h3 : encD s 2 = some (win y a (p - a)) := h3
  have hsl : s.length ≤ y.length := by
   unfold encD at h3
   split at h3
   ·have h3 := congrArg List.length (Option.some.inj h3)
    rw [List.length_append, by_ (by omega)] at h3
    omega
   ·cases h3
  have hg := kU_ s 0 (by omega) (by omega)
  rw [show ((0 : Nat) : Int) = 0 from rfl] at hg
  refine ⟨_, _, aa_ e1 (ab_ rfl (aa_ hg rfl)), rfl, ?_⟩
  cases hc : ((getR s 0).2.2 == 0 && (getR s 0).2.1 == (s.length : Int)) with
  | false => exact .inr rfl
  | true =>
   refine .inl ⟨rfl, p, rfl, h1, h2, ?_⟩
   simp only [Bool.and_eq_true, beq_iff_eq] at hc
   obtain ⟨k1, k2⟩ := putB_getR s (getR s 0).1 (by rw [← hc.1, ← hc.2])
   unfold encS
   rw [if_pos k1, k2]
   unfold encD at h3
   split at h3
   ·exact h3
   ·cases h3
 ·refine ⟨_, _, aa_ e1 (ac_ (by simp [hno]) rfl), hy, .inr hno⟩
theorem rstat_no (y : Str) (a : Int) : ∃ d, bl_ ⟨y, a, false⟩ = some (d, ⟨y, a, false⟩) := by
 unfold bl_
 obtain ⟨s, hs⟩ := rdata_no y a 2
 exact ⟨_, aa_ hs (ac_ rfl rfl)⟩
end Go.Proofs.YtolgkhjkdadhiaaGreat
namespace Go.Proofs.YtolgkhjkdadhiaaGreat
open Go.Rt Go.RowKit
def cv_ (n : Int) : Str := (eW_ n).getD []
theorem some_cond {α : Type} {c : Bool} {a : α} {x : Option α} (h : x.isSome = true) : (bif c then some a else x).isSome = true := by
 cases c with
 | true => rfl
 | false => exact h
theorem qf_ (n : Int) : (kr_ n).isSome = true := by
 unfold kr_
 repeat (first | rfl | refine some_cond ?_)
theorem o4_ (n : Int) : (jn_ n).isSome = true := by
 unfold jn_
 repeat (first | rfl | refine some_cond ?_)
theorem hC_ (n : Int) : eW_ n = some (cv_ n) := by
 have h : (eW_ n).isSome = true := by
  unfold eW_
  obtain ⟨a, ha⟩ := Option.isSome_iff_exists.1 (qf_ n)
  obtain ⟨b, hb⟩ := Option.isSome_iff_exists.1 (o4_ n)
  rw [ha, hb]
  cases (decide (n > 0) && decide (n ≤ 24)) <;> rfl
 obtain ⟨a, ha⟩ := Option.isSome_iff_exists.1 h
 unfold cv_
 rw [ha]; rfl
theorem find_loop (x : Str) : ∀ (k fuel i : Nat), i + k = 60 → k < fuel → ∃ o, an_ (cy_ x) fuel (i : Int) = some o ∧ ∀ e b, o = .ret (e, b) → b = true ∧ cv_ e = x
 | 0, fuel + 1, i, hi, _ => by
  refine ⟨.fall (), ar_ ?_, fun e b h => by cases h⟩
  unfold cy_
  exact ab_ (by simp; omega) rfl
 | k + 1, fuel + 1, i, hi, hk => by
  have hc : decide ((i : Int) ≤ 59) = true := by simp; omega
  cases hx : (cv_ (i : Int) == x) with
  | true =>
   refine ⟨.ret ((i : Int), true), ar_ ?_, fun e b h => ?_⟩
   ·unfold cy_
    refine ac_ hc (aa_ (hC_ _) ?_)
    exact ac_ hx rfl
   ·simp only [Out.ret.injEq, Prod.mk.injEq] at h
    obtain ⟨rfl, rfl⟩ := h
    exact ⟨rfl, by simpa using hx⟩
  | false =>
   obtain ⟨o, h1, h2⟩ := find_loop x k fuel (i + 1) (by omega) (by omega)
   refine ⟨o, ay_ ?_ h1, h2⟩
   unfold cy_
   refine ac_ hc (aa_ (hC_ _) ?_)
   refine ab_ hx ?_
   rw [am_ (n := (i : Int) + 1) ⟨by omega, by omega⟩]
   rfl
theorem find_eq (x : Str) : ∃ e b, df_ x = some (e, b) ∧ (b = true → cv_ e = x) := by
 unfold df_
 cases h : (x == []) with
 | true => exact ⟨0, false, rfl, fun h => by cases h⟩
 | false =>
  obtain ⟨o, h1, h2⟩ := find_loop x 59 BIG 1 rfl (by show (59 : Nat) < 18446744073709551616; omega)
  rw [show ((1 : Nat) : Int) = 1 from rfl] at h1
  cases o with
  | fall _ => exact ⟨0, false, ab_ rfl (aa_ h1 rfl), fun h => by cases h⟩
  | ret r =>
   obtain ⟨e, b⟩ := r
   exact ⟨e, b, ab_ rfl (aa_ h1 rfl), fun _ => (h2 e b rfl).2⟩
theorem rfault (y : Str) (a : Nat) (h : a ≤ y.length) (hs : y.length ≤ 1000000) : ∃ e r, bB_ ⟨y, (a : Int), true⟩ = some (e, r) ∧ Rd y a (fun n => b6_ (cv_ n)) e r := by
 unfold bB_
 have e1 := rtext y a h hs
 cases d1 : aU_ y a with
 | none =>
  rw [d1] at e1
  obtain ⟨e, b, h2, _⟩ := find_eq []
  exact ⟨_, _, aa_ e1 (aa_ h2 rfl), rfl, .inr rfl⟩
 | some q =>
  obtain ⟨t, p⟩ := q
  rw [d1] at e1
  obtain ⟨k1, k2, k3⟩ := mH_ d1
  obtain ⟨e, b, h2, h3⟩ := find_eq t
  refine ⟨_, _, aa_ e1 (aa_ h2 rfl), rfl, ?_⟩
  cases b with
  | false => exact .inr rfl
  | true => exact .inl ⟨rfl, p, rfl, k2, k1, by show b6_ (cv_ e) = _; rw [h3 rfl]; exact k3⟩
theorem rfault_no (y : Str) (a : Int) : ∃ e, bB_ ⟨y, a, false⟩ = some (e, ⟨y, a, false⟩) := by
 unfold bB_
 obtain ⟨e, b, h2, _⟩ := find_eq []
 exact ⟨_, aa_ (rtext_no _ _) (aa_ h2 rfl)⟩
theorem rnames_no (y : Str) (a : Int) : ∃ l, bb_ ⟨y, a, false⟩ = some (l, ⟨y, a, false⟩) := by
 unfold bb_
 refine ⟨[], aa_ (fv_ _ _ _) (aa_ (a := ([], ⟨y, a, false⟩)) ?_ rfl)⟩
 rw [show BIG = 18446744073709551615 + 1 from rfl]
 refine ar_ ?_
 unfold aC_
 exact ab_ rfl rfl
theorem rqids_no (y : Str) (a : Int) : ∃ l, bk_ ⟨y, a, false⟩ = some (l, ⟨y, a, false⟩) := by
 unfold bk_
 refine ⟨[], aa_ (fv_ _ _ _) (aa_ (a := ([], ⟨y, a, false⟩)) ?_ rfl)⟩
 rw [show BIG = 18446744073709551615 + 1 from rfl]
 refine ar_ ?_
 unfold aF_
 exact ab_ rfl rfl
inductive Lt where
 | m | v | s | a | u | x | q | f | e | o | n | w | W | M | i | N | p | O | c | d | S | l | t
deriving DecidableEq
def Lt.byte : Lt → Nat
 | .m => 109 | .v => 118 | .s => 115 | .a => 97 | .u => 117 | .x => 120 | .q => 113 | .f => 102 | .e => 101 | .o => 111 | .n => 110 | .w => 119
 | .W => 87 | .M => 77 | .i => 105 | .N => 78 | .p => 112 | .O => 79 | .c => 99 | .d => 100 | .S => 83 | .l => 108 | .t => 116
def encF (k : Lt) (m : api_Msg) : Option Str := match k with
 | .m => bc_ m.Msize_ 4 | .v => b6_ m.Version_ | .s => b6_ m.Session_ | .a => bc_ m.AuthFid_ 4 | .u => b6_ m.User_ | .x => b6_ m.Attach_
 | .q => dL_ m.Qid_ | .f => bc_ m.Fid_ 4 | .e => b6_ (cv_ m.Err_) | .o => bc_ m.OldTag_ 2 | .n => bc_ m.NewFid_ 4 | .w => encL b6_ m.Names_
 | .W => encL dL_ m.Qids_ | .M => bc_ m.Mode_ 1 | .i => bc_ m.Iounit_ 4 | .N => b6_ m.Name_ | .p => bc_ m.Perm_ 4 | .O => bc_ m.Offset_ 8
 | .c => bc_ m.Count_ 4 | .d => encD m.Data_ 4 | .S => encS m.Stat_ | .l => bc_ m.Lease_ 1 | .t => bc_ m.Term_ 4
def cpF (k : Lt) (m' m : api_Msg) : api_Msg := match k with
 | .m => { m with Msize_ := m'.Msize_ } | .v => { m with Version_ := m'.Version_ } | .s => { m with Session_ := m'.Session_ } | .a => { m with AuthFid_ := m'.AuthFid_ }
 | .u => { m with User_ := m'.User_ } | .x => { m with Attach_ := m'.Attach_ } | .q => { m with Qid_ := m'.Qid_ } | .f => { m with Fid_ := m'.Fid_ }
 | .e => { m with Err_ := m'.Err_ } | .o => { m with OldTag_ := m'.OldTag_ } | .n => { m with NewFid_ := m'.NewFid_ } | .w => { m with Names_ := m'.Names_ }
 | .W => { m with Qids_ := m'.Qids_ } | .M => { m with Mode_ := m'.Mode_ } | .i => { m with Iounit_ := m'.Iounit_ } | .N => { m with Name_ := m'.Name_ }
 | .p => { m with Perm_ := m'.Perm_ } | .O => { m with Offset_ := m'.Offset_ } | .c => { m with Count_ := m'.Count_ } | .d => { m with Data_ := m'.Data_ }
 | .S => { m with Stat_ := m'.Stat_ } | .l => { m with Lease_ := m'.Lease_ } | .t => { m with Term_ := m'.Term_ }
theorem encF_cp (k : Lt) (m' m : api_Msg) : encF k (cpF k m' m) = encF k m' := by cases k <;> rfl
theorem encF_other (k k' : Lt) (h : k ≠ k') (m' m : api_Msg) : encF k (cpF k' m' m) = encF k m := by cases k <;> cases k' <;> first | exact absurd rfl h | rfl
theorem nc_ (k : Lt) (m' m : api_Msg) : (cpF k m' m).Kind_ = m.Kind_ ∧ (cpF k m' m).Tag_ = m.Tag_ := by cases k <;> exact ⟨rfl, rfl⟩
theorem Rd.cp {α : Type} {y : Str} {a : Nat} {enc : α → Option Str} {x : α} {r : wire_reader} {enc' : api_Msg → Option Str} {m : api_Msg} (h : Rd y a enc x r) (he : enc x = enc' m) : Rd y a enc' m r :=
 ⟨h.1, h.2.imp (fun ⟨h1, p, h2, h3, h4, h5⟩ => ⟨h1, p, h2, h3, h4, he ▸ h5⟩) id⟩
theorem rnumR (y : Str) (a w : Nat) (h1 : 1 ≤ w) (h8 : w ≤ 8) (h : a ≤ y.length) (hs : y.length ≤ 1000000) : ∃ n r, al_ ⟨y, (a : Int), true⟩ (w : Int) = some (n, r) ∧ Rd y a (fun n => bc_ n w) n r := by
 have e1 := rnum y a w h1 h8 h hs
 cases d1 : decN y a w with
 | none => rw [d1] at e1; exact ⟨_, _, e1, rfl, .inr rfl⟩
 | some q =>
  obtain ⟨n, p⟩ := q
  rw [d1] at e1
  obtain ⟨a1, b1, c1, g1⟩ := gU_ d1 h8
  exact ⟨_, _, e1, rfl, .inl ⟨rfl, p, rfl, by omega, b1, by rw [show p - a = w by omega]; exact g1⟩⟩
theorem rtextR (y : Str) (a : Nat) (h : a ≤ y.length) (hs : y.length ≤ 1000000) : ∃ t r, aG_ ⟨y, (a : Int), true⟩ = some (t, r) ∧ Rd y a b6_ t r := by
 have e1 := rtext y a h hs
 cases d1 : aU_ y a with
 | none => rw [d1] at e1; exact ⟨_, _, e1, rfl, .inr rfl⟩
 | some q =>
  obtain ⟨t, p⟩ := q
  rw [d1] at e1
  obtain ⟨k1, k2, k3⟩ := mH_ d1
  exact ⟨_, _, e1, rfl, .inl ⟨rfl, p, rfl, k2, k1, k3⟩⟩
theorem rfield (k : Lt) (y : Str) (a : Nat) (m : api_Msg) (h : a ≤ y.length) (hs : y.length ≤ 1000000) : ∃ m' r, ah_ ⟨y, (a : Int), true⟩ m (k.byte : Int) = some (r, cpF k m' m) ∧ Rd y a (encF k) m' r := by
 have N : ∀ w : Nat, 1 ≤ w → w ≤ 8 → _ := fun w h1 h8 => rnumR y a w h1 h8 h hs
 have N1 := N 1 (by omega) (by omega)
 have N2 := N 2 (by omega) (by omega)
 have N4 := N 4 (by omega) (by omega)
 have N8 := N 8 (by omega) (by omega)
 rw [show ((1 : Nat) : Int) = 1 from rfl] at N1
 rw [show ((2 : Nat) : Int) = 2 from rfl] at N2
 rw [show ((4 : Nat) : Int) = 4 from rfl] at N4
 rw [show ((8 : Nat) : Int) = 8 from rfl] at N8
 have T := rtextR y a h hs
 unfold ah_
 cases k with
 | m => obtain ⟨n, r, e1, e2⟩ := N4; exact ⟨{ m with Msize_ := n }, r, aa_ e1 rfl, e2.cp rfl⟩
 | v => obtain ⟨n, r, e1, e2⟩ := T; exact ⟨{ m with Version_ := n }, r, aa_ e1 rfl, e2.cp rfl⟩
 | s => obtain ⟨n, r, e1, e2⟩ := T; exact ⟨{ m with Session_ := n }, r, aa_ e1 rfl, e2.cp rfl⟩
 | a => obtain ⟨n, r, e1, e2⟩ := N4; exact ⟨{ m with AuthFid_ := n }, r, aa_ e1 rfl, e2.cp rfl⟩
 | u => obtain ⟨n, r, e1, e2⟩ := T; exact ⟨{ m with User_ := n }, r, aa_ e1 rfl, e2.cp rfl⟩
 | x => obtain ⟨n, r, e1, e2⟩ := T; exact ⟨{ m with Attach_ := n }, r, aa_ e1 rfl, e2.cp rfl⟩
 | q => obtain ⟨n, r, e1, e2⟩ := rqid y a h hs; exact ⟨{ m with Qid_ := n }, r, aa_ e1 rfl, e2⟩
 | f => obtain ⟨n, r, e1, e2⟩ := N4; exact ⟨{ m with Fid_ := n }, r, aa_ e1 rfl, e2.cp rfl⟩
 | e => obtain ⟨n, r, e1, e2⟩ := rfault y a h hs; exact ⟨{ m with Err_ := n }, r, aa_ e1 rfl, e2.cp rfl⟩
 | o => obtain ⟨n, r, e1, e2⟩ := N2; exact ⟨{ m with OldTag_ := n }, r, aa_ e1 rfl, e2.cp rfl⟩
 | n => obtain ⟨n, r, e1, e2⟩ := N4; exact ⟨{ m with NewFid_ := n }, r, aa_ e1 rfl, e2.cp rfl⟩
 | w => obtain ⟨n, r, e1, e2⟩ := rnames y a h hs; exact ⟨{ m with Names_ := n }, r, aa_ e1 rfl, e2.cp rfl⟩
 | W => obtain ⟨n, r, e1, e2⟩ := rqids y a h hs; exact ⟨{ m with Qids_ := n }, r, aa_ e1 rfl, e2.cp rfl⟩
 | M => obtain ⟨n, r, e1, e2⟩ := N1; exact ⟨{ m with Mode_ := n }, r, aa_ e1 rfl, e2.cp rfl⟩
 | i => obtain ⟨n, r, e1, e2⟩ := N4; exact ⟨{ m with Iounit_ := n }, r, aa_ e1 rfl, e2.cp rfl⟩
 | N => obtain ⟨n, r, e1, e2⟩ := T; exact ⟨{ m with Name_ := n }, r, aa_ e1 rfl, e2.cp rfl⟩
 | p => obtain ⟨n, r, e1, e2⟩ := N4; exact ⟨{ m with Perm_ := n }, r, aa_ e1 rfl, e2.cp rfl⟩
 | O => obtain ⟨n, r, e1, e2⟩ := N8; exact ⟨{ m with Offset_ := n }, r, aa_ e1 rfl, e2.cp rfl⟩
 | c => obtain ⟨n, r, e1, e2⟩ := N4; exact ⟨{ m with Count_ := n }, r, aa_ e1 rfl, e2.cp rfl⟩
 | d => obtain ⟨n, r, e1, e2⟩ := rdata y a 4 (by omega) (by omega) h hs; exact ⟨{ m with Data_ := n }, r, aa_ e1 rfl, e2.cp rfl⟩
 | S => obtain ⟨n, r, e1, e2⟩ := rstat y a h hs; exact ⟨{ m with Stat_ := n }, r, aa_ e1 rfl, e2.cp rfl⟩
 | l => obtain ⟨n, r, e1, e2⟩ := N1; exact ⟨{ m with Lease_ := n }, r, aa_ e1 rfl, e2.cp rfl⟩
 | t => obtain ⟨n, r, e1, e2⟩ := N4; exact ⟨{ m with Term_ := n }, r, aa_ e1 rfl, e2.cp rfl⟩
theorem dT_ (r : wire_reader) (h : r.ok_ = false) (w : Int) : ∃ n, al_ r w = some (n, r) := by
 obtain ⟨y, a, o⟩ := r; cases h; exact ⟨_, fv_ y a w⟩
theorem j2_ (r : wire_reader) (h : r.ok_ = false) : ∃ n, aG_ r = some (n, r) := by
 obtain ⟨y, a, o⟩ := r; cases h; exact ⟨_, rtext_no y a⟩
theorem xqid_no (r : wire_reader) (h : r.ok_ = false) : ∃ n, aZ_ r = some (n, r) := by
 obtain ⟨y, a, o⟩ := r; cases h; exact rqid_no y a
theorem xfault_no (r : wire_reader) (h : r.ok_ = false) : ∃ n, bB_ r = some (n, r) := by
 obtain ⟨y, a, o⟩ := r; cases h; exact rfault_no y a
theorem xnames_no (r : wire_reader) (h : r.ok_ = false) : ∃ n, bb_ r = some (n, r) := by
 obtain ⟨y, a, o⟩ := r; cases h; exact rnames_no y a
theorem xqids_no (r : wire_reader) (h : r.ok_ = false) : ∃ n, bk_ r = some (n, r) := by
 obtain ⟨y, a, o⟩ := r; cases h; exact rqids_no y a
theorem xdata_no (r : wire_reader) (h : r.ok_ = false) (w : Int) : ∃ n, aK_ r w = some (n, r) := by
 obtain ⟨y, a, o⟩ := r; cases h; exact rdata_no y a w
theorem xstat_no (r : wire_reader) (h : r.ok_ = false) : ∃ n, bl_ r = some (n, r) := by
 obtain ⟨y, a, o⟩ := r; cases h; exact rstat_no y a
theorem rfield_no (k : Lt) (r0 : wire_reader) (h : r0.ok_ = false) (m : api_Msg) : ∃ m', ah_ r0 m (k.byte : Int) = some (r0, cpF k m' m) := by
 unfold ah_
 cases k with
 | m => obtain ⟨n, e1⟩ := dT_ r0 h 4; exact ⟨{ m with Msize_ := n }, aa_ e1 rfl⟩
 | v => obtain ⟨n, e1⟩ := j2_ r0 h; exact ⟨{ m with Version_ := n }, aa_ e1 rfl⟩
 | s => obtain ⟨n, e1⟩ := j2_ r0 h; exact ⟨{ m with Session_ := n }, aa_ e1 rfl⟩
 | a => obtain ⟨n, e1⟩ := dT_ r0 h 4; exact ⟨{ m with AuthFid_ := n }, aa_ e1 rfl⟩
 | u => obtain ⟨n, e1⟩ := j2_ r0 h; exact ⟨{ m with User_ := n }, aa_ e1 rfl⟩
 | x => obtain ⟨n, e1⟩ := j2_ r0 h; exact ⟨{ m with Attach_ := n }, aa_ e1 rfl⟩
 | q => obtain ⟨n, e1⟩ := xqid_no r0 h; exact ⟨{ m with Qid_ := n }, aa_ e1 rfl⟩
 | f => obtain ⟨n, e1⟩ := dT_ r0 h 4; exact ⟨{ m with Fid_ := n }, aa_ e1 rfl⟩
 | e => obtain ⟨n, e1⟩ := xfault_no r0 h; exact ⟨{ m with Err_ := n }, aa_ e1 rfl⟩
 | o => obtain ⟨n, e1⟩ := dT_ r0 h 2; exact ⟨{ m with OldTag_ := n }, aa_ e1 rfl⟩
 | n => obtain ⟨n, e1⟩ := dT_ r0 h 4; exact ⟨{ m with NewFid_ := n }, aa_ e1 rfl⟩
 | w => obtain ⟨n, e1⟩ := xnames_no r0 h; exact ⟨{ m with Names_ := n }, aa_ e1 rfl⟩
 | W => obtain ⟨n, e1⟩ := xqids_no r0 h; exact ⟨{ m with Qids_ := n }, aa_ e1 rfl⟩
 | M => obtain ⟨n, e1⟩ := dT_ r0 h 1; exact ⟨{ m with Mode_ := n }, aa_ e1 rfl⟩
 | i => obtain ⟨n, e1⟩ := dT_ r0 h 4; exact ⟨{ m with Iounit_ := n }, aa_ e1 rfl⟩
 | N => obtain ⟨n, e1⟩ := j2_ r0 h; exact ⟨{ m with Name_ := n }, aa_ e1 rfl⟩
 | p => obtain ⟨n, e1⟩ := dT_ r0 h 4; exact ⟨{ m with Perm_ := n }, aa_ e1 rfl⟩
 | O => obtain ⟨n, e1⟩ := dT_ r0 h 8; exact ⟨{ m with Offset_ := n }, aa_ e1 rfl⟩
 | c => obtain ⟨n, e1⟩ := dT_ r0 h 4; exact ⟨{ m with Count_ := n }, aa_ e1 rfl⟩
 | d => obtain ⟨n, e1⟩ := xdata_no r0 h 4; exact ⟨{ m with Data_ := n }, aa_ e1 rfl⟩
 | S => obtain ⟨n, e1⟩ := xstat_no r0 h; exact ⟨{ m with Stat_ := n }, aa_ e1 rfl⟩
 | l => obtain ⟨n, e1⟩ := dT_ r0 h 1; exact ⟨{ m with Lease_ := n }, aa_ e1 rfl⟩
 | t => obtain ⟨n, e1⟩ := dT_ r0 h 4; exact ⟨{ m with Term_ := n }, aa_ e1 rfl⟩
end Go.Proofs.YtolgkhjkdadhiaaGreat
namespace Go.Proofs.YtolgkhjkdadhiaaGreat
open Go.Rt Go.RowKit
theorem cW_ {α β : Type} {x : Option α} {f : α → Option β} (h : x.isSome = true) (hf : ∀ a, x = some a → (f a).isSome = true) : (x.bind f).isSome = true := by
 cases x with
 | none => cases h
 | some a => exact hf a rfl
theorem co_ {α : Type} {c : Bool} {a b : Option α} (h : c = true → a.isSome = true) (h' : c = false → b.isSome = true) : (bif c then a else b).isSome = true := by
 cases c with
 | true => exact h rfl
 | false => exact h' rfl
theorem Option.get_some {α : Type} {x : Option α} (h : x.isSome = true) : ∃ a, x = some a := Option.isSome_iff_exists.1 h
theorem cd_ {α β : Type} {body : Int → Option (Step Int (Out Unit β))} (xs : List α) (p : α → Option β) (hn : xs.length < BIG)
  (hb : ∀ i (h : i < xs.length), body (i : Int) = match p xs[i] with | none => some (.next ((i + 1 : Nat) : Int)) | some r => some (.done (.ret r)))
  (he : body (xs.length : Int) = some (.done (.fall ()))) : an_ body BIG 0 = some (match xs.findSome? p with | none => .fall () | some r => .ret r) := by
 refine ia_ (J := fun i s b => s = (i : Int) ∧ b = match (xs.drop i).findSome? p with | none => .fall () | some r => .ret r) xs.length hn (fun s b hJ => ?_) (fun i s b hi hJ => ?_) (by simp)
 ·obtain ⟨rfl, rfl⟩ := hJ
  rw [he]; simp
 ·obtain ⟨rfl, rfl⟩ := hJ
  rw [hb i hi, List.drop_eq_getElem_cons hi, List.findSome?_cons]
  cases hp : p xs[i] with
  | none => exact .inr ⟨_, rfl, rfl, rfl⟩
  | some r => exact .inl rfl
theorem iQ_ {α β : Type} {p : α → Option β} : ∀ {xs : List α}, xs.findSome? p = none → ∀ x ∈ xs, p x = none
 | [], _, x, h => by cases h
 | y :: xs, h, x, hx => by
  rw [List.findSome?_cons] at h
  cases hp : p y with
  | some r => rw [hp] at h; cases h
  | none =>
   rw [hp] at h
   cases hx with
   | head => exact hp
   | tail _ hx => exact iQ_ h x hx
theorem n1_ {α : Type} [DecidableEq α] : ∀ (xs ys : List α), xs.length = ys.length → (xs.zip ys).findSome? (fun p => if p.1 = p.2 then none else some false) = if xs = ys then none else some false
 | [], [], _ => rfl
 | [], _ :: _, h => by cases h
 | _ :: _, [], h => by cases h
 | x :: xs, y :: ys, h => by
  rw [List.zip_cons_cons, List.findSome?_cons]
  by_cases hx : x = y
  ·subst hx
   simp only [if_true]
   rw [n1_ xs ys (by simpa using h)]
   simp
  ·simp [hx]
theorem jD_ {α : Type} {xs ys : List α} (h : xs.length = ys.length) : (xs.zip ys).length = xs.length := by simp [h]
theorem eR_ (k : Int) : (br_ k).isSome = true := by
 unfold br_
 refine co_ (fun _ => rfl) fun h => ?_
 simp only [Bool.or_eq_false_iff, decide_eq_false_iff_not] at h
 obtain ⟨n, hn⟩ : ∃ n : Nat, k - 100 = (n : Int) := ⟨(k - 100).toNat, by omega⟩
 rw [hn, am_ (n := (n : Int)) ⟨by omega, by omega⟩]
 refine cW_ ?_ fun _ _ => rfl
 rw [az_ (by show n < 32; omega)]; rfl
def inR (x a b : Int) : Int := if a ≤ x ∧ x ≤ b then 0 else 5
theorem bK_ (x a b : Int) : c2_ x a b = some (inR x a b) := by
 unfold c2_ inR
 by_cases h : a ≤ x ∧ x ≤ b
 ·rw [if_pos h]; exact ab_ (by simp; omega) rfl
 ·rw [if_neg h]; exact ac_ (by simp; omega) rfl
theorem bE_ (x : Int) : dS_ x = some (inR x 0 4294967294) := by
 unfold dS_; rw [bK_]; rfl
def aT_ (s : Str) (n : Int) : Int := if (s.length : Int) ≤ n then 0 else 4
theorem aM_ (s : Str) (n : Int) : dm_ s n = some (aT_ s n) := by
 unfold dm_ aT_
 by_cases h : (s.length : Int) ≤ n
 ·rw [if_pos h]; exact ab_ (by simp; omega) rfl
 ·rw [if_neg h]; exact ac_ (by simp; omega) rfl
def ce_ (y : Int) : Option Int := if y = 0 then none else some y
def bJ_ (xs : List Int) : Int := match xs.findSome? ce_ with | none => 0 | some y => y
theorem aj_ (xs : List Int) (h : xs.length ≤ 1000000) : cp_ xs = some (bJ_ xs) := by
 unfold cp_
 have hB : BIG = 18446744073709551616 := rfl
 refine aa_ (cd_ xs ce_ (by omega) (fun i hi => ?_) ?_) ?_
 ·unfold jW_
  refine ac_ (by simp; omega) (aa_ (az_ hi) ?_)
  rw [am_ (n := (i : Int) + 1) ⟨by omega, by omega⟩]
  unfold ce_
  by_cases hy : xs[i] = 0
  ·rw [if_pos hy]; exact ab_ (by simp [hy]) rfl
  ·rw [if_neg hy]; exact ac_ (by simp [hy]) rfl
 ·unfold jW_
  exact ab_ (by simp) rfl
 ·unfold bJ_
  cases xs.findSome? ce_ <;> rfl
theorem ao_ {xs : List Int} (h : bJ_ xs = 0) : ∀ x ∈ xs, x = 0 := by
 unfold bJ_ at h
 have key : xs.findSome? ce_ = none := by
  cases e : xs.findSome? ce_ with
  | none => rfl
  | some y =>
   rw [e] at h
   obtain ⟨a, _, ha⟩ := List.exists_of_findSome?_eq_some e
   unfold ce_ at ha
   split at ha
   ·cases ha
   ·cases ha; exact absurd h ‹_›
 intro x hx
 have := iQ_ key x hx
 unfold ce_ at this
 split at this
 ·assumption
 ·cases this
def dZ_ (q : api_Qid) : Int := if decide (q.Type_ < 0) || (eA_ .i64 q.Type_ 232 != 0) then 5 else bJ_ [inR q.Vers_ 0 2147483647, inR q.Path_ 0 1099511627776]
theorem bC_ (q : api_Qid) : jC_ q = some (dZ_ q) := by
 unfold jC_ dZ_
 cases h : (decide (q.Type_ < 0) || (eA_ .i64 q.Type_ 232 != 0)) with
 | true => rfl
 | false => exact ab_ rfl (aa_ (bK_ _ _ _) (aa_ (bK_ _ _ _) (aa_ (aj_ _ (by simp)) rfl)))
def hD_ (s : Str) : Option Int := if s = [46, 46] ∨ cb_ s = true then none else some 6
def hE_ (l : List Str) : Int := if l.length > 16 then 4 else match l.findSome? hD_ with | none => 0 | some y => y
theorem aR_ (l : List Str) (hl : ∀ s ∈ l, s.length ≤ 9223372036854775807) : kp_ l = some (hE_ l) := by
 unfold kp_ hE_
 have hB : BIG = 18446744073709551616 := rfl
 by_cases h : l.length > 16
 ·rw [if_pos h]; exact ac_ (by simp; omega) rfl
 ·rw [if_neg h]
  refine ab_ (by simp; omega) (aa_ (cd_ l hD_ (by omega) (fun i hi => ?_) ?_) ?_)
  ·unfold jX_
   refine ac_ (by simp; omega) (aa_ (az_ hi) ?_)
   rw [am_ (n := (i : Int) + 1) ⟨by omega, by omega⟩, nY_ _ (hl _ (List.getElem_mem hi))]
   generalize l[i] = s
   unfold hD_
   by_cases h1 : s = [46, 46]
   ·subst h1; rfl
   ·have h2 : (!(s == [46, 46])) = true := by simpa using h1
    rw [h2]
    cases cb_ s <;> simp [h1]
  ·unfold jX_
   exact ab_ (by simp) rfl
  ·cases l.findSome? hD_ <;> rfl
def qid1 (q : api_Qid) : Option Int := ce_ (dZ_ q)
def jt_ (l : List api_Qid) : Int := if l.length > 16 then 4 else match l.findSome? qid1 with | none => 0 | some y => y
theorem bd_ (l : List api_Qid) : lI_ l = some (jt_ l) := by
 unfold lI_ jt_
 have hB : BIG = 18446744073709551616 := rfl
 by_cases h : l.length > 16
 ·rw [if_pos h]; exact ac_ (by simp; omega) rfl
 ·rw [if_neg h]
  refine ab_ (by simp; omega) (aa_ (cd_ l qid1 (by omega) (fun i hi => ?_) ?_) ?_)
  ·unfold kR_
   refine ac_ (by simp; omega) (aa_ (az_ hi) (aa_ (bC_ _) ?_))
   rw [am_ (n := (i : Int) + 1) ⟨by omega, by omega⟩]
   unfold qid1 ce_
   by_cases hy : dZ_ l[i] = 0
   ·rw [if_pos hy]; exact ab_ (by simp [hy]) rfl
   ·rw [if_neg hy]; exact ac_ (by simp [hy]) rfl
  ·unfold kR_
   exact ab_ (by simp) rfl
  ·cases l.findSome? qid1 <;> rfl
theorem aS_ (s : Str) (h : s.length ≤ 9223372036854775807) : kq_ s = some (if cb_ s then 0 else 6) := by
 unfold kq_
 refine aa_ (nY_ s h) ?_
 cases cb_ s <;> rfl
theorem strs_eq (xs ys : List Str) (h : xs.length ≤ 9223372036854775807) : cJ_ xs ys = some (decide (xs = ys)) := by
 unfold cJ_
 have hB : BIG = 18446744073709551616 := rfl
 by_cases hl : xs.length = ys.length
 ·refine ab_ (by simp; omega) (aa_ (cd_ (xs.zip ys) (fun p => if p.1 = p.2 then none else some false) (by rw [jD_ hl]; omega) (fun i hi => ?_) ?_) ?_)
  ·rw [jD_ hl] at hi
   unfold c7_
   refine ac_ (by simp; omega) (aa_ (az_ hi) (aa_ (az_ (hl ▸ hi)) ?_))
   rw [am_ (n := (i : Int) + 1) ⟨by omega, by omega⟩]
   rw [List.getElem_zip]
   by_cases he : xs[i] = ys[i]
   ·simp only [he, if_true]; exact ab_ (by simp) rfl
   ·simp only [he, if_false]; exact ac_ (by simpa using he) rfl
  ·rw [jD_ hl]
   unfold c7_
   exact ab_ (by simp) rfl
  ·rw [n1_ xs ys hl]
   by_cases he : xs = ys <;> simp [he]
 ·refine ac_ (by simp; omega) ?_
  have : xs ≠ ys := fun h => hl (by rw [h])
  simp [this]
theorem qidl_eq (xs ys : List api_Qid) (h : xs.length ≤ 9223372036854775807) : cK_ xs ys = some (decide (xs = ys)) := by
 unfold cK_
 have hB : BIG = 18446744073709551616 := rfl
 by_cases hl : xs.length = ys.length
 ·refine ab_ (by simp; omega) (aa_ (cd_ (xs.zip ys) (fun p => if p.1 = p.2 then none else some false) (by rw [jD_ hl]; omega) (fun i hi => ?_) ?_) ?_)
  ·rw [jD_ hl] at hi
   unfold c8_
   refine ac_ (by simp; omega) (aa_ (az_ hi) (aa_ (az_ (hl ▸ hi)) ?_))
   rw [am_ (n := (i : Int) + 1) ⟨by omega, by omega⟩]
   rw [List.getElem_zip]
   by_cases he : xs[i] = ys[i]
   ·simp only [he, if_true]; exact ab_ (by simp) rfl
   ·simp only [he, if_false]; exact ac_ (by simp) rfl
  ·rw [jD_ hl]
   unfold c8_
   exact ab_ (by simp) rfl
  ·rw [n1_ xs ys hl]
   by_cases he : xs = ys <;> simp [he]
 ·refine ac_ (by simp; omega) ?_
  have : xs ≠ ys := fun h => hl (by rw [h])
  simp [this]
def api_Msg.small (m : api_Msg) : Prop := m.Names_.length ≤ 9223372036854775807 ∧ (∀ s ∈ m.Names_, s.length ≤ 9223372036854775807) ∧ m.Qids_.length ≤ 9223372036854775807 ∧ m.Name_.length ≤ 9223372036854775807 ∧ m.Stat_.ok
theorem same_eq (x y : api_Msg) (hx : x.Names_.length ≤ 9223372036854775807) (hq : x.Qids_.length ≤ 9223372036854775807) : jV_ x y = some (decide (x = y)) := by
 unfold jV_ jl_ jm_
 rw [strs_eq x.Names_ y.Names_ hx, qidl_eq x.Qids_ y.Qids_ hq]
 obtain ⟨x1, x2, x3, x4, x5, x6, x7, x8, x9, x10, x11, x12, x13, x14, x15, x16, x17, x18, x19, x20, x21, x22, x23, x24, x25⟩ := x
 obtain ⟨y1, y2, y3, y4, y5, y6, y7, y8, y9, y10, y11, y12, y13, y14, y15, y16, y17, y18, y19, y20, y21, y22, y23, y24, y25⟩ := y
 simp only [Option.bind_some, Arr13_int.mk.injEq, Arr6_string.mk.injEq, api_Msg.mk.injEq]
 by_cases a1 : x1 = y1 ∧ x2 = y2 ∧ x3 = y3 ∧ x4 = y4 ∧ x5 = y5 ∧ x6 = y6 ∧ x7 = y7 ∧ x14 = y14 ∧ x15 = y15 ∧ x16 = y16 ∧ x18 = y18 ∧ x19 = y19 ∧ x23 = y23
 ·by_cases a2 : x8 = y8 ∧ x9 = y9 ∧ x10 = y10 ∧ x17 = y17 ∧ x20 = y20 ∧ x25 = y25
  ·by_cases b1 : x24 = y24 <;> by_cases b2 : x22 = y22 <;> by_cases b3 : x13 = y13 <;> by_cases b4 : x21 = y21 <;> by_cases b5 : x11 = y11 <;> by_cases b6 : x12 = y12 <;>
   simp only [a1, a2, b1, b2, b3, b4, b5, b6, and_true, and_false, and_self, decide_true, decide_false, cond_true, cond_false, Option.bind_some, beq_self_eq_true, show ∀ a b : Int, (a == b) = decide (a = b) from fun _ _ => rfl, Bool.and_true, Bool.and_false]
  ·have : ¬ (x1 = y1 ∧ x2 = y2 ∧ x3 = y3 ∧ x4 = y4 ∧ x5 = y5 ∧ x6 = y6 ∧ x7 = y7 ∧ x8 = y8 ∧ x9 = y9 ∧ x10 = y10 ∧ x11 = y11 ∧ x12 = y12 ∧ x13 = y13 ∧ x14 = y14 ∧ x15 = y15 ∧ x16 = y16 ∧ x17 = y17 ∧ x18 = y18 ∧ x19 = y19 ∧ x20 = y20 ∧ x21 = y21 ∧ x22 = y22 ∧ x23 = y23 ∧ x24 = y24 ∧ x25 = y25) := fun h => a2 ⟨h.2.2.2.2.2.2.2.1, h.2.2.2.2.2.2.2.2.1, h.2.2.2.2.2.2.2.2.2.1, h.2.2.2.2.2.2.2.2.2.2.2.2.2.2.2.2.1, h.2.2.2.2.2.2.2.2.2.2.2.2.2.2.2.2.2.2.2.1, h.2.2.2.2.2.2.2.2.2.2.2.2.2.2.2.2.2.2.2.2.2.2.2.2⟩
   simp only [decide_eq_true a1, decide_eq_false a2, decide_eq_false this, cond_true, cond_false, Option.bind_some, Bool.false_and]
 ·have : ¬ (x1 = y1 ∧ x2 = y2 ∧ x3 = y3 ∧ x4 = y4 ∧ x5 = y5 ∧ x6 = y6 ∧ x7 = y7 ∧ x8 = y8 ∧ x9 = y9 ∧ x10 = y10 ∧ x11 = y11 ∧ x12 = y12 ∧ x13 = y13 ∧ x14 = y14 ∧ x15 = y15 ∧ x16 = y16 ∧ x17 = y17 ∧ x18 = y18 ∧ x19 = y19 ∧ x20 = y20 ∧ x21 = y21 ∧ x22 = y22 ∧ x23 = y23 ∧ x24 = y24 ∧ x25 = y25) := fun h => a1 ⟨h.1, h.2.1, h.2.2.1, h.2.2.2.1, h.2.2.2.2.1, h.2.2.2.2.2.1, h.2.2.2.2.2.2.1, h.2.2.2.2.2.2.2.2.2.2.2.2.2.1, h.2.2.2.2.2.2.2.2.2.2.2.2.2.2.1, h.2.2.2.2.2.2.2.2.2.2.2.2.2.2.2.1, h.2.2.2.2.2.2.2.2.2.2.2.2.2.2.2.2.2.1, h.2.2.2.2.2.2.2.2.2.2.2.2.2.2.2.2.2.2.1, h.2.2.2.2.2.2.2.2.2.2.2.2.2.2.2.2.2.2.2.2.2.2.1⟩
  simp only [decide_eq_false a1, decide_eq_false this, cond_false, Option.bind_some, Bool.false_and]
theorem iB_ (m : api_Msg) : (cj_ m).isSome = true := by
 unfold cj_
 repeat (first | rfl | refine cW_ ?_ fun _ _ => ?_ | refine co_ (fun _ => ?_) fun _ => ?_)
theorem nx_ (m : api_Msg) (h : m.small) : (ad_ m).isSome = true := by
 obtain ⟨_, h2, _, h4, h5⟩ := h
 unfold ad_
 rw [aR_ _ h2, aS_ _ h4, aL_ _ h5 h5.2.2.2.2.2.2.2.1]
 simp only [bK_, aM_, bE_, bC_, bd_]
 repeat (first | rfl | refine co_ (fun _ => ?_) fun _ => ?_ | (refine cW_ (by rw [aj_ _ (by simp)]; rfl) fun _ _ => ?_) | refine cW_ ?_ fun _ _ => ?_)
def Lt.b8 (k : Lt) : UInt8 := UInt8.ofNat k.byte
theorem Lt.b8_nat (k : Lt) : k.b8.toNat = k.byte := by cases k <;> rfl
def dM_ (l : List Lt) : Str := l.map Lt.b8
def cps (l : List Lt) (m' m : api_Msg) : api_Msg := l.foldl (fun a k => cpF k m' a) m
def bW_ (k t : Int) : api_Msg := api_Msg.mk k t 0 0 0 0 0 [] [] [] [] [] (api_Qid.mk 0 0 0) 0 0 0 [] 0 0 [] (api_Dir.mk 0 0 (api_Qid.mk 0 0 0) 0 0 0 0 [] [] [] []) 0 0 0 []
def Lays (o : Option Str) : Prop := ∃ l : List Lt, o = some (dM_ l) ∧ l.Nodup ∧ l.length ≤ 100
theorem Lays.ite {c : Bool} {a b : Option Str} (h : Lays a) (h' : Lays b) : Lays (bif c then a else b) := by
 cases c with
 | true => exact h
 | false => exact h'
theorem Lays.bind {α : Type} {x : Option α} {f : α → Option Str} (h : x.isSome = true) (hf : ∀ a, Lays (f a)) : Lays (x.bind f) := by
 cases x with
 | none => cases h
 | some a => exact hf a
theorem lay_any (k : Int) : Lays (bz_ k) := by
 unfold bz_
 refine Lays.ite ⟨[.m, .v], rfl, by decide, by decide⟩ ?_
 refine Lays.ite ⟨[.m, .v, .s], rfl, by decide, by decide⟩ ?_
 refine Lays.ite ⟨[.a, .u, .x], rfl, by decide, by decide⟩ ?_
 refine Lays.bind (by repeat (first | rfl | refine co_ (fun _ => ?_) fun _ => ?_)) fun _ => ?_
 refine Lays.ite ⟨[.q], rfl, by decide, by decide⟩ ?_
 refine Lays.ite ⟨[.f, .a, .u, .x], rfl, by decide, by decide⟩ ?_
 refine Lays.ite ⟨[.e], rfl, by decide, by decide⟩ ?_
 refine Lays.ite ⟨[.o], rfl, by decide, by decide⟩ ?_
 refine Lays.ite ⟨[.f, .n, .w], rfl, by decide, by decide⟩ ?_
 refine Lays.ite ⟨[.W], rfl, by decide, by decide⟩ ?_
 refine Lays.ite ⟨[.f, .M], rfl, by decide, by decide⟩ ?_
 refine Lays.bind (by repeat (first | rfl | refine co_ (fun _ => ?_) fun _ => ?_)) fun _ => ?_
 refine Lays.ite ⟨[.q, .i], rfl, by decide, by decide⟩ ?_
 refine Lays.ite ⟨[.f, .N, .p, .M], rfl, by decide, by decide⟩ ?_
 refine Lays.ite ⟨[.f, .O, .c], rfl, by decide, by decide⟩ ?_
 refine Lays.ite ⟨[.d], rfl, by decide, by decide⟩ ?_
 refine Lays.ite ⟨[.f, .O, .d], rfl, by decide, by decide⟩ ?_
 refine Lays.ite ⟨[.c], rfl, by decide, by decide⟩ ?_
 refine Lays.bind (by repeat (first | rfl | refine co_ (fun _ => ?_) fun _ => ?_)) fun _ => ?_
 refine Lays.ite ⟨[.f], rfl, by decide, by decide⟩ ?_
 refine Lays.ite ⟨[.S], rfl, by decide, by decide⟩ ?_
 refine Lays.ite ⟨[.f, .S], rfl, by decide, by decide⟩ ?_
 refine Lays.ite ⟨[.f, .l, .t], rfl, by decide, by decide⟩ ?_
 refine Lays.ite ⟨[.q, .l, .t], rfl, by decide, by decide⟩ ?_
 refine Lays.ite ⟨[.s], rfl, by decide, by decide⟩ ?_
 exact ⟨[], rfl, by decide, by decide⟩
theorem ju_ {k : Int} {t : Str} (h : br_ k = some t) (ht : t ≠ []) : k = 100 ∨ k = 101 ∨ k = 102 ∨ k = 103 ∨ k = 104 ∨ k = 105 ∨ k = 107 ∨ k = 108 ∨ k = 109 ∨ k = 110 ∨ k = 111 ∨ k = 112 ∨ k = 113 ∨ k = 114 ∨ k = 115 ∨ k = 116 ∨ k = 117 ∨ k = 118 ∨ k = 119 ∨ k = 120 ∨ k = 121 ∨ k = 122 ∨ k = 123 ∨ k = 124 ∨ k = 125 ∨ k = 126 ∨ k = 127 ∨ k = 128 ∨ k = 129 ∨ k = 130 ∨ k = 131 := by
 unfold br_ at h
 cases hc : (decide (k < 100) || decide (k > 131)) with
 | true => rw [hc] at h; exact absurd (Option.some.inj h).symm ht
 | false =>
  simp only [Bool.or_eq_false_iff, decide_eq_false_iff_not] at hc
  by_cases h6 : k = 106
  ·subst h6; exact absurd (Option.some.inj h).symm ht
  ·omega
theorem lR_ (m : api_Msg) {t : Str} (h : br_ m.Kind_ = some t) (ht : t ≠ []) : ∃ l : List Lt, bz_ m.Kind_ = some (dM_ l) ∧ l.Nodup ∧ l.length ≤ 100 ∧ fQ_ m = some (cps l m (bW_ m.Kind_ m.Tag_)) := by
 have hk := ju_ h ht
 clear h ht
 obtain ⟨x1, x2, x3, x4, x5, x6, x7, x8, x9, x10, x11, x12, x13, x14, x15, x16, x17, x18, x19, x20, x21, x22, x23, x24, x25⟩ := m
 simp only at hk
 rcases hk with rfl | rfl | rfl | rfl | rfl | rfl | rfl | rfl | rfl | rfl | rfl | rfl | rfl | rfl | rfl | rfl | rfl | rfl | rfl | rfl | rfl | rfl | rfl | rfl | rfl | rfl | rfl | rfl | rfl | rfl | rfl
 ·exact ⟨[.m, .v], rfl, by decide, by decide, rfl⟩
 ·exact ⟨[.m, .v, .s], rfl, by decide, by decide, rfl⟩
 ·exact ⟨[.a, .u, .x], rfl, by decide, by decide, rfl⟩
 ·exact ⟨[.q], rfl, by decide, by decide, rfl⟩
 ·exact ⟨[.f, .a, .u, .x], rfl, by decide, by decide, rfl⟩
 ·exact ⟨[.q], rfl, by decide, by decide, rfl⟩
 ·exact ⟨[.e], rfl, by decide, by decide, rfl⟩
 ·exact ⟨[.o], rfl, by decide, by decide, rfl⟩
 ·exact ⟨[], rfl, by decide, by decide, rfl⟩
 ·exact ⟨[.f, .n, .w], rfl, by decide, by decide, rfl⟩
 ·exact ⟨[.W], rfl, by decide, by decide, rfl⟩
 ·exact ⟨[.f, .M], rfl, by decide, by decide, rfl⟩
 ·exact ⟨[.q, .i], rfl, by decide, by decide, rfl⟩
 ·exact ⟨[.f, .N, .p, .M], rfl, by decide, by decide, rfl⟩
 ·exact ⟨[.q, .i], rfl, by decide, by decide, rfl⟩
 ·exact ⟨[.f, .O, .c], rfl, by decide, by decide, rfl⟩
 ·exact ⟨[.d], rfl, by decide, by decide, rfl⟩
 ·exact ⟨[.f, .O, .d], rfl, by decide, by decide, rfl⟩
 ·exact ⟨[.c], rfl, by decide, by decide, rfl⟩
 ·exact ⟨[.f], rfl, by decide, by decide, rfl⟩
 ·exact ⟨[], rfl, by decide, by decide, rfl⟩
 ·exact ⟨[.f], rfl, by decide, by decide, rfl⟩
 ·exact ⟨[], rfl, by decide, by decide, rfl⟩
 ·exact ⟨[.f], rfl, by decide, by decide, rfl⟩
 ·exact ⟨[.S], rfl, by decide, by decide, rfl⟩
 ·exact ⟨[.f, .S], rfl, by decide, by decide, rfl⟩
 ·exact ⟨[], rfl, by decide, by decide, rfl⟩
 ·exact ⟨[.f, .l, .t], rfl, by decide, by decide, rfl⟩
 ·exact ⟨[.q, .l, .t], rfl, by decide, by decide, rfl⟩
 ·exact ⟨[.s], rfl, by decide, by decide, rfl⟩
 ·exact ⟨[], rfl, by decide, by decide, rfl⟩
theorem ky_ {m' : api_Msg} : ∀ (l : List Lt) {m : api_Msg}, m'.Names_.length ≤ 9223372036854775807 → m'.Qids_.length ≤ 9223372036854775807 → m.Names_.length ≤ 9223372036854775807 → m.Qids_.length ≤ 9223372036854775807 → (cps l m' m).Names_.length ≤ 9223372036854775807 ∧ (cps l m' m).Qids_.length ≤ 9223372036854775807
 | [], _, _, _, h3, h4 => ⟨h3, h4⟩
 | k :: l, m, h1, h2, h3, h4 => by
  show (cps l m' (cpF k m' m)).Names_.length ≤ _ ∧ _
  refine ky_ l h1 h2 ?_ ?_
  ·cases k <;> first | exact h3 | exact h1
  ·cases k <;> first | exact h4 | exact h2
theorem hF_ (m : api_Msg) (h : m.small) : ∃ c, aX_ m = some c := by
 apply Option.get_some
 unfold aX_
 refine cW_ (eR_ _) fun t ht => co_ (fun _ => rfl) fun hn => ?_
 obtain ⟨l, _, _, _, ho⟩ := lR_ m ht (by simp at hn; exact hn)
 refine cW_ (iB_ m) fun _ _ => co_ (fun _ => rfl) fun _ => cW_ (by rw [ho]; rfl) fun x hx => ?_
 have hx' : x.Names_.length ≤ 9223372036854775807 ∧ x.Qids_.length ≤ 9223372036854775807 := by
  rw [ho] at hx
  cases hx
  exact ky_ l h.1 h.2.2.1 (by simp [bW_]) (by simp [bW_])
 refine cW_ (by rw [same_eq x m hx'.1 hx'.2]; rfl) fun _ _ => co_ (fun _ => rfl) fun _ => cW_ (nx_ m h) fun _ _ => rfl
end Go.Proofs.YtolgkhjkdadhiaaGreat
namespace Go.Proofs.YtolgkhjkdadhiaaGreat
open Go.Rt Go.RowKit
theorem wadd (w t : Str) (e : Int) (h : w.length + t.length ≤ 9223372036854775807) : cP_ ⟨w, 0⟩ t e = some ⟨w ++ t, e⟩ := by
 unfold cP_
 exact ac_ rfl (aa_ (c4_ h) rfl)
theorem mJ_ {n : Int} {k : Nat} {t : Str} (h : bc_ n k = some t) : bx_ n k = true ∧ t = leB n k := by
 unfold bc_ at h
 cases hf : bx_ n k with
 | true => rw [hf] at h; exact ⟨rfl, (Option.some.inj h).symm⟩
 | false => rw [hf] at h; cases h
theorem eL_ {w : Str} {n : Int} {k : Nat} {t : Str} (h1 : 1 ≤ k) (h8 : k ≤ 8) (he : bc_ n k = some t) (h : w.length + t.length ≤ 9223372036854775807) : av_ ⟨w, 0⟩ n (k : Int) = some ⟨w ++ t, 0⟩ := by
 obtain ⟨a, rfl⟩ := mJ_ he
 unfold av_
 refine aa_ (i4_ n k h1 h8) ?_
 rw [if_pos a]
 exact aa_ (wadd w _ 0 h) rfl
theorem iR_ {s t : Str} (h : b6_ s = some t) : s.length ≤ 65535 ∧ t = bp_ s := by
 unfold b6_ at h
 split at h
 ·exact ⟨‹_›, (Option.some.inj h).symm⟩
 ·cases h
theorem wtext {w s t : Str} (he : b6_ s = some t) (h : w.length + t.length ≤ 9223372036854775807) : bM_ ⟨w, 0⟩ s = some ⟨w ++ t, 0⟩ := by
 obtain ⟨a, rfl⟩ := iR_ he
 unfold bM_
 exact aa_ (text_put s a) (aa_ (wadd w _ 0 h) rfl)
theorem kz_ {q : api_Qid} {t : Str} (h : dL_ q = some t) : bx_ q.Type_ 1 = true ∧ bx_ q.Vers_ 4 = true ∧ bx_ q.Path_ 8 = true ∧ t = leB q.Type_ 1 ++ leB q.Vers_ 4 ++ leB q.Path_ 8 := by
 unfold dL_ at h
 split at h
 ·rename_i hc
  simp only [Bool.and_eq_true] at hc
  exact ⟨hc.1.1, hc.1.2, hc.2, (Option.some.inj h).symm⟩
 ·cases h
theorem wqid {w : Str} {q : api_Qid} {t : Str} (he : dL_ q = some t) (h : w.length + t.length ≤ 9223372036854775807) : eg_ ⟨w, 0⟩ q = some ⟨w ++ t, 0⟩ := by
 obtain ⟨a, b, c, rfl⟩ := kz_ he
 simp only [List.length_append] at h
 unfold eg_
 refine aa_ (eL_ (k := 1) (t := leB q.Type_ 1) (by omega) (by omega) (by unfold bc_; rw [if_pos a]) (by omega)) ?_
 refine aa_ (eL_ (k := 4) (t := leB q.Vers_ 4) (by omega) (by omega) (by unfold bc_; rw [if_pos b]) (by simp only [List.length_append]; omega)) ?_
 refine aa_ (eL_ (k := 8) (t := leB q.Path_ 8) (by omega) (by omega) (by unfold bc_; rw [if_pos c]) (by simp only [List.length_append]; omega)) ?_
 simp only [List.append_assoc]
theorem eS_ {α : Type} {f : α → Option Str} {x : α} {l : List α} {t : Str} (h : cn_ f (x :: l) = some t) : ∃ a b, f x = some a ∧ cn_ f l = some b ∧ t = a ++ b := by
 unfold cn_ at h
 cases hx : f x with
 | none => rw [hx] at h; cases h
 | some a =>
  cases hl : cn_ f l with
  | none => rw [hx, hl] at h; cases h
  | some b => rw [hx, hl] at h; exact ⟨a, b, rfl, rfl, (Option.some.inj h).symm⟩
theorem ny_ (l : List Str) (hl : l.length ≤ 65535) : ∀ (k fuel i : Nat) (w t : Str), i + k = l.length → k < fuel → cn_ b6_ (l.drop i) = some t → w.length + t.length ≤ 9223372036854775807 → an_ (dJ_ l) fuel ((i : Int), ⟨w, 0⟩) = some ⟨w ++ t, 0⟩
 | 0, fuel + 1, i, w, t, hi, _, he, _ => by
  rw [show l.drop i = [] from List.drop_eq_nil_of_le (by omega)] at he
  cases he
  refine ar_ ?_
  unfold dJ_
  exact ab_ (by simp; omega) (by simp)
 | k + 1, fuel + 1, i, w, t, hi, hk, he, h => by
  have hlt : i < l.length := by omega
  rw [List.drop_eq_getElem_cons hlt] at he
  obtain ⟨a, b, h1, h2, rfl⟩ := eS_ he
  simp only [List.length_append] at h
  have ih := ny_ l hl k fuel (i + 1) (w ++ a) b (by omega) (by omega) h2 (by simp only [List.length_append]; omega)
  rw [List.append_assoc] at ih
  refine ay_ ?_ ih
  unfold dJ_
  refine ac_ (by simp; omega) (aa_ (az_ hlt) (aa_ (wtext h1 (by omega)) ?_))
  rw [am_ (n := (i : Int) + 1) ⟨by omega, by omega⟩]; rfl
theorem o5_ (l : List api_Qid) (hl : l.length ≤ 65535) : ∀ (k fuel i : Nat) (w t : Str), i + k = l.length → k < fuel → cn_ dL_ (l.drop i) = some t → w.length + t.length ≤ 9223372036854775807 → an_ (d2_ l) fuel ((i : Int), ⟨w, 0⟩) = some ⟨w ++ t, 0⟩
 | 0, fuel + 1, i, w, t, hi, _, he, _ => by
  rw [show l.drop i = [] from List.drop_eq_nil_of_le (by omega)] at he
  cases he
  refine ar_ ?_
  unfold d2_
  exact ab_ (by simp; omega) (by simp)
 | k + 1, fuel + 1, i, w, t, hi, hk, he, h => by
  have hlt : i < l.length := by omega
  rw [List.drop_eq_getElem_cons hlt] at he
  obtain ⟨a, b, h1, h2, rfl⟩ := eS_ he
  simp only [List.length_append] at h
  have ih := o5_ l hl k fuel (i + 1) (w ++ a) b (by omega) (by omega) h2 (by simp only [List.length_append]; omega)
  rw [List.append_assoc] at ih
  refine ay_ ?_ ih
  unfold d2_
  refine ac_ (by simp; omega) (aa_ (az_ hlt) (aa_ (wqid h1 (by omega)) ?_))
  rw [am_ (n := (i : Int) + 1) ⟨by omega, by omega⟩]; rfl
theorem dR_ {α : Type} {f : α → Option Str} {l : List α} {t : Str} (h : encL f l = some t) : l.length ≤ 65535 ∧ ∃ b, cn_ f l = some b ∧ t = leB (l.length : Int) 2 ++ b := by
 unfold encL at h
 split at h
 ·rename_i hc
  refine ⟨hc, ?_⟩
  cases hl : cn_ f l with
  | none => rw [hl] at h; cases h
  | some b => rw [hl] at h; exact ⟨b, rfl, (Option.some.inj h).symm⟩
 ·cases h
theorem ie_ (n : Nat) (h : n ≤ 65535) : bc_ (n : Int) 2 = some (leB (n : Int) 2) := by
 have : bx_ (n : Int) 2 = true := by
  unfold bx_
  simp only [Bool.and_eq_true, Bool.or_eq_true, decide_eq_true_eq]
  exact ⟨by omega, .inr (by omega)⟩
 unfold bc_; rw [if_pos this]
theorem wnames {w : Str} {l : List Str} {t : Str} (he : encL b6_ l = some t) (h : w.length + t.length ≤ 9223372036854775807) : ey_ ⟨w, 0⟩ l = some ⟨w ++ t, 0⟩ := by
 obtain ⟨hl, b, h1, rfl⟩ := dR_ he
 simp only [List.length_append] at h
 unfold ey_
 have hB : BIG = 18446744073709551616 := rfl
 refine aa_ (eL_ (k := 2) (by omega) (by omega) (ie_ _ hl) (by omega)) ?_
 refine aa_ (ny_ l hl l.length BIG 0 _ b (by omega) (by omega) h1 (by simp only [List.length_append]; omega)) ?_
 simp only [List.append_assoc]
theorem wqids {w : Str} {l : List api_Qid} {t : Str} (he : encL dL_ l = some t) (h : w.length + t.length ≤ 9223372036854775807) : eX_ ⟨w, 0⟩ l = some ⟨w ++ t, 0⟩ := by
 obtain ⟨hl, b, h1, rfl⟩ := dR_ he
 simp only [List.length_append] at h
 unfold eX_
 have hB : BIG = 18446744073709551616 := rfl
 refine aa_ (eL_ (k := 2) (by omega) (by omega) (ie_ _ hl) (by omega)) ?_
 refine aa_ (o5_ l hl l.length BIG 0 _ b (by omega) (by omega) h1 (by simp only [List.length_append]; omega)) ?_
 simp only [List.append_assoc]
theorem kA_ {s t : Str} {k : Nat} (h : encD s k = some t) : bx_ (s.length : Int) k = true ∧ t = leB (s.length : Int) k ++ s := by
 unfold encD at h
 split at h
 ·exact ⟨‹_›, (Option.some.inj h).symm⟩
 ·cases h
theorem wdata {w s t : Str} {k : Nat} (h1 : 1 ≤ k) (h8 : k ≤ 8) (he : encD s k = some t) (h : w.length + t.length ≤ 9223372036854775807) : dW_ ⟨w, 0⟩ s (k : Int) = some ⟨w ++ t, 0⟩ := by
 obtain ⟨a, rfl⟩ := kA_ he
 simp only [List.length_append] at h
 unfold dW_
 refine aa_ (eL_ (t := leB (s.length : Int) k) h1 h8 (by unfold bc_; rw [if_pos a]) (by omega)) (aa_ (wadd _ _ 0 (by simp only [List.length_append]; omega)) ?_)
 simp only [List.append_assoc]
theorem if_ {n m : Int} (h : dA_ n m = true) (hm : m ≤ 9223372036854775807) : InK .i64 n := by
 unfold dA_ at h
 simp only [Bool.or_eq_true, Bool.and_eq_true, beq_iff_eq, decide_eq_true_eq] at h
 exact ⟨by show -9223372036854775808 ≤ n; omega, by show n ≤ 9223372036854775807; omega⟩
theorem andI_le (x : Int) (m : Nat) (hm : m < 2 ^ 63) (h0 : 0 ≤ x) (h : andI .i64 x (m : Int) = x) : x ≤ (m : Int) := by
 have hx : x ≤ 9223372036854775807 := by
  have hw : ∀ n : Int, IntKind.i64.wrap n ≤ 9223372036854775807 := by
   intro n
   simp only [IntKind.wrap, IntKind.bits, IntKind.signed]
   simp
   split <;> omega
  have hx : andI .i64 x (m : Int) ≤ 9223372036854775807 := hw _
  rw [h] at hx
  exact hx
 have := ic_ x m hm hx (by unfold cG_; simp only [Bool.or_eq_true, Bool.and_eq_true, beq_iff_eq, decide_eq_true_eq]; exact .inr ⟨h0, h⟩)
 unfold dA_ at this
 simp only [Bool.or_eq_true, Bool.and_eq_true, beq_iff_eq, decide_eq_true_eq] at this
 omega
theorem okBits_in {x : Int} {m : Nat} (hm : m < 2 ^ 63) (h : cG_ x (m : Int) = true) : InK .i64 x := by
 unfold cG_ at h
 simp only [Bool.or_eq_true, Bool.and_eq_true, beq_iff_eq, decide_eq_true_eq] at h
 rcases h with h | ⟨h0, h⟩
 ·exact ⟨by show -9223372036854775808 ≤ x; omega, by show x ≤ 9223372036854775807; omega⟩
 ·have := andI_le x m hm h0 h
  exact ⟨by show -9223372036854775808 ≤ x; omega, by show x ≤ 9223372036854775807; omega⟩
theorem kB_ {d : api_Dir} (h : bi_ d = 0) : d.ok := by
 obtain ⟨h1, h2⟩ := di_ d h
 obtain ⟨l1, l2, l3, l4⟩ := eQ_ d h2
 unfold cc_ at h1
 simp only [Bool.and_eq_true] at h1
 obtain ⟨⟨⟨⟨⟨⟨⟨⟨a, b⟩, c⟩, e⟩, f⟩, g⟩, i⟩, j⟩, k⟩ := h1
 exact ⟨if_ a (by omega), if_ b (by omega), ⟨okBits_in (m := 232) (by omega) c, if_ e (by omega), if_ f (by omega)⟩, okBits_in (m := 3892314623) (by omega) g, if_ i (by omega), if_ j (by omega), if_ k (by omega), by omega, by omega, by omega, by omega⟩
theorem iS_ {d : api_Dir} {t : Str} (h : encS d = some t) : bi_ d = 0 ∧ t = leB ((bf_ d).length : Int) 2 ++ bf_ d := by
 unfold encS at h
 split at h
 ·exact ⟨‹_›, (Option.some.inj h).symm⟩
 ·cases h
theorem wstat {w : Str} {d : api_Dir} {t : Str} (he : encS d = some t) (h : w.length + t.length ≤ 9223372036854775807) : eY_ ⟨w, 0⟩ d = some ⟨w ++ t, 0⟩ := by
 obtain ⟨a, rfl⟩ := iS_ he
 have hok := kB_ a
 obtain ⟨l1, l2, l3, l4⟩ := eQ_ d (di_ d a).2
 have hlen := j1_ d
 unfold eY_
 refine aa_ (put_eq d hok hok.2.2.2.2.2.2.2.1) ?_
 unfold putR
 rw [if_pos a]
 refine aa_ (wadd w [] 0 (by simp only [List.length_append] at h; simp; omega)) (aa_ (wdata (k := 2) (t := leB ((bf_ d).length : Int) 2 ++ bf_ d) (by omega) (by omega) ?_ ?_) ?_)
 ·unfold encD
  rw [if_pos]
  unfold bx_
  simp only [Bool.and_eq_true, Bool.or_eq_true, decide_eq_true_eq]
  exact ⟨by omega, .inr (by omega)⟩
 ·simpa using h
 ·simp
theorem wfield (k : Lt) (m : api_Msg) (w t : Str) (he : encF k m = some t) (h : w.length + t.length ≤ 9223372036854775807) : ez_ ⟨w, 0⟩ m (k.byte : Int) = some ⟨w ++ t, 0⟩ := by
 unfold ez_
 cases k with
 | m => exact aa_ (eL_ (k := 4) (by omega) (by omega) he h) rfl
 | v => exact aa_ (wtext he h) rfl
 | s => exact aa_ (wtext he h) rfl
 | a => exact aa_ (eL_ (k := 4) (by omega) (by omega) he h) rfl
 | u => exact aa_ (wtext he h) rfl
 | x => exact aa_ (wtext he h) rfl
 | q => exact aa_ (wqid he h) rfl
 | f => exact aa_ (eL_ (k := 4) (by omega) (by omega) he h) rfl
 | e => exact aa_ (hC_ m.Err_) (aa_ (wtext he h) rfl)
 | o => exact aa_ (eL_ (k := 2) (by omega) (by omega) he h) rfl
 | n => exact aa_ (eL_ (k := 4) (by omega) (by omega) he h) rfl
 | w => exact aa_ (wnames he h) rfl
 | W => exact aa_ (wqids he h) rfl
 | M => exact aa_ (eL_ (k := 1) (by omega) (by omega) he h) rfl
 | i => exact aa_ (eL_ (k := 4) (by omega) (by omega) he h) rfl
 | N => exact aa_ (wtext he h) rfl
 | p => exact aa_ (eL_ (k := 4) (by omega) (by omega) he h) rfl
 | O => exact aa_ (eL_ (k := 8) (by omega) (by omega) he h) rfl
 | c => exact aa_ (eL_ (k := 4) (by omega) (by omega) he h) rfl
 | d => exact aa_ (wdata (k := 4) (by omega) (by omega) he h) rfl
 | S => exact aa_ (wstat he h) rfl
 | l => exact aa_ (eL_ (k := 1) (by omega) (by omega) he h) rfl
 | t => exact aa_ (eL_ (k := 4) (by omega) (by omega) he h) rfl
end Go.Proofs.YtolgkhjkdadhiaaGreat
namespace Go.Proofs.YtolgkhjkdadhiaaGreat
open Go.Rt Go.RowKit
def RS (y : Str) (r : wire_reader) : Prop := r.s_ = y ∧ (r.ok_ = true → ∃ p : Nat, r.at_ = (p : Int) ∧ p ≤ y.length)
def St (y : Str) (r r' : wire_reader) (t : Option Str) : Prop := r'.s_ = y ∧ (r'.ok_ = true → r.ok_ = true ∧ ∃ p p' : Nat, r.at_ = (p : Int) ∧ r'.at_ = (p' : Int) ∧ p ≤ p' ∧ p' ≤ y.length ∧ t = some (win y p (p' - p)))
def app2 (a b : Option Str) : Option Str := match a, b with
 | some a, some b => some (a ++ b)
 | _, _ => none
theorem St.rs {y : Str} {r r' : wire_reader} {t : Option Str} (h : St y r r' t) : RS y r' :=
 ⟨h.1, fun ho => let ⟨_, _, p', _, h2, _, h4, _⟩ := h.2 ho; ⟨p', h2, h4⟩⟩
theorem St.zero {y : Str} {r : wire_reader} (h : RS y r) : St y r r (some []) :=
 ⟨h.1, fun ho => let ⟨p, h1, h2⟩ := h.2 ho; ⟨ho, p, p, h1, h1, Nat.le_refl _, h2, by simp [win]⟩⟩
theorem St.comp {y : Str} {r r1 r2 : wire_reader} {t u : Option Str} (h : St y r r1 t) (h' : St y r1 r2 u) : St y r r2 (app2 t u) := by
 refine ⟨h'.1, fun ho => ?_⟩
 obtain ⟨o1, p1, p2, a1, a2, a3, a4, rfl⟩ := h'.2 ho
 obtain ⟨o0, p0, p1', b1, b2, b3, b4, rfl⟩ := h.2 o1
 have : p1' = p1 := by omega
 subst this
 exact ⟨o0, p0, p2, b1, a2, by omega, a4, congrArg some (bU_ y p0 (p1' - p0) (p2 - p1') p1' (p2 - p0) (by omega) (by omega))⟩
theorem Rd.st {α : Type} {y : Str} {a : Nat} {enc : α → Option Str} {x : α} {r : wire_reader} (h : Rd y a enc x r) : St y ⟨y, (a : Int), true⟩ r (enc x) := by
 refine ⟨h.1, fun ho => ?_⟩
 rcases h.2 with ⟨_, p, h2, h3, h4, h5⟩ | h2
 ·exact ⟨rfl, a, p, rfl, h2, h3, h4, h5⟩
 ·rw [h2] at ho; cases ho
theorem o6_ {y : Str} {r : wire_reader} (h : RS y r) (ho : r.ok_ = true) : ∃ p : Nat, r = ⟨y, (p : Int), true⟩ ∧ p ≤ y.length := by
 obtain ⟨p, h1, h2⟩ := h.2 ho
 exact ⟨p, mI_ h.1 h1 ho, h2⟩
theorem nstep {y : Str} {r : wire_reader} (w : Nat) (h1 : 1 ≤ w) (h8 : w ≤ 8) (h : RS y r) (hs : y.length ≤ 1000000) : ∃ n r', al_ r (w : Int) = some (n, r') ∧ St y r r' (bc_ n w) := by
 cases ho : r.ok_ with
 | true =>
  obtain ⟨p, rfl, hp⟩ := o6_ h ho
  obtain ⟨n, r', e1, e2⟩ := rnumR y p w h1 h8 hp hs
  exact ⟨n, r', e1, e2.st⟩
 | false =>
  obtain ⟨n, e1⟩ := dT_ r ho (w : Int)
  exact ⟨n, r, e1, h.1, fun h' => by rw [ho] at h'; cases h'⟩
theorem fstep {y : Str} {r : wire_reader} (k : Lt) (m : api_Msg) (h : RS y r) (hs : y.length ≤ 1000000) : ∃ m' r', ah_ r m (k.byte : Int) = some (r', cpF k m' m) ∧ St y r r' (encF k m') := by
 cases ho : r.ok_ with
 | true =>
  obtain ⟨p, rfl, hp⟩ := o6_ h ho
  obtain ⟨m', r', e1, e2⟩ := rfield k y p m hp hs
  exact ⟨m', r', e1, e2.st⟩
 | false =>
  obtain ⟨m', e1⟩ := rfield_no k r ho m
  exact ⟨m', r, e1, h.1, fun h' => by rw [ho] at h'; cases h'⟩
theorem encs_all {α : Type} {f : α → Option Str} : ∀ {l : List α} {t : Str}, cn_ f l = some t → ∀ x ∈ l, ∃ a, f x = some a
 | [], _, _, x, hx => by cases hx
 | y :: l, t, h, x, hx => by
  obtain ⟨a, b, h1, h2, _⟩ := eS_ h
  cases hx with
  | head => exact ⟨a, h1⟩
  | tail _ hx => exact encs_all h2 x hx
theorem small_cp {k : Lt} {m' m : api_Msg} {t : Str} (h : m.small) (he : encF k m' = some t) : (cpF k m' m).small := by
 obtain ⟨h1, h2, h3, h4, h5⟩ := h
 cases k with
 | w =>
  obtain ⟨l1, b, l2, _⟩ := dR_ (f := b6_) he
  exact ⟨by show m'.Names_.length ≤ _; omega, fun s hs => by obtain ⟨a, ha⟩ := encs_all l2 s hs; have := (iR_ ha).1; omega, h3, h4, h5⟩
 | W =>
  obtain ⟨l1, b, l2, _⟩ := dR_ (f := dL_) he
  exact ⟨h1, h2, by show m'.Qids_.length ≤ _; omega, h4, h5⟩
 | N => exact ⟨h1, h2, h3, by have := (iR_ (s := m'.Name_) he).1; show m'.Name_.length ≤ _; omega, h5⟩
 | S => exact ⟨h1, h2, h3, h4, kB_ (iS_ (d := m'.Stat_) he).1⟩
 | _ => exact ⟨h1, h2, h3, h4, h5⟩
def encA (l : List Lt) (m : api_Msg) : Option Str := cn_ (fun k => encF k m) l
theorem kC_ (k : Lt) (l : List Lt) (m : api_Msg) : encA (k :: l) m = app2 (encF k m) (encA l m) := by
 unfold encA app2
 rw [cn_] <;> rfl
theorem e9_ (l : List Lt) : (dM_ l).length = l.length := by simp [dM_]
theorem kD_ (l : List Lt) (i : Nat) (h : i < l.length) : bV_ (dM_ l) (i : Int) = some (l[i].byte : Int) := by
 rw [eu_ (by rw [e9_]; exact h)]
 simp [dM_, Lt.b8_nat]
theorem gloop (y : Str) (hs : y.length ≤ 1000000) (L : List Lt) (hL : L.length ≤ 100) : ∀ (l : List Lt) (fuel i : Nat) (r : wire_reader) (m : api_Msg), L.drop i = l → i + l.length = L.length → l.Nodup → l.length < fuel → RS y r →
  ∃ mf r', an_ (cs_ (dM_ L)) fuel ((i : Int), r, m) = some (r', mf) ∧ St y r r' (encA l mf) ∧ mf.Kind_ = m.Kind_ ∧ mf.Tag_ = m.Tag_ ∧ (∀ k, k ∉ l → encF k mf = encF k m) ∧ (r'.ok_ = true → m.small → mf.small)
 | [], 0, i, r, m, hd, hi, _, hf, h => absurd hf (Nat.not_lt_zero _)
 | _ :: _, 0, i, r, m, hd, hi, _, hf, h => absurd hf (Nat.not_lt_zero _)
 | [], fuel + 1, i, r, m, hd, hi, _, _, h => by
  have hb : cs_ (dM_ L) ((i : Int), r, m) = some (.done (r, m)) := by
   unfold cs_
   simp only [List.length_nil] at hi
   exact ab_ (by rw [e9_]; simp; omega) rfl
  have hz : St y r r (encA [] m) := St.zero h
  exact ⟨m, r, ar_ hb, hz, rfl, rfl, fun _ _ => rfl, fun _ h => h⟩
 | k :: l, fuel + 1, i, r, m, hd, hi, hn, hf, h => by
  simp only [List.length_cons] at hi hf
  have hlt : i < L.length := by omega
  rw [List.drop_eq_getElem_cons hlt] at hd
  simp only [List.cons.injEq] at hd
  obtain ⟨hk, hd⟩ := hd
  obtain ⟨hn1, hn2⟩ := List.nodup_cons.1 hn
  obtain ⟨m', r1, e1, s1⟩ := fstep k m h hs
  obtain ⟨mf, r', e2, s2, k1, k2, k3, k4⟩ := gloop y hs L hL l fuel (i + 1) r1 (cpF k m' m) hd (by omega) hn2 (by omega) s1.rs
  have ek : encF k mf = encF k m' := by rw [k3 k hn1, encF_cp]
  refine ⟨mf, r', ay_ ?_ e2, ?_, ?_, ?_, fun k' h' => ?_, fun ho hm => ?_⟩
  ·unfold cs_
   refine ac_ (by rw [e9_]; simp; omega) (aa_ (kD_ L i hlt) ?_)
   rw [hk]
   refine aa_ e1 ?_
   rw [am_ (n := (i : Int) + 1) ⟨by omega, by omega⟩]; rfl
  ·rw [kC_, ek]; exact s1.comp s2
  ·rw [k1, (nc_ k m' m).1]
  ·rw [k2, (nc_ k m' m).2]
  ·simp only [List.mem_cons, not_or] at h'
   rw [k3 k' h'.2, encF_other k' k h'.1]
  ·obtain ⟨o1, _⟩ := s2.2 ho
   obtain ⟨_, p, p', _, _, _, _, ht⟩ := s1.2 o1
   exact k4 ho (small_cp hm ht)
def Good (m : api_Msg) (y : Str) : Prop := m.small ∧ aX_ m = some 0 ∧ leV (win y 0 4) = y.length ∧ 7 ≤ y.length ∧ y.length ≤ 8192 ∧ ∃ l, bz_ m.Kind_ = some (dM_ l) ∧ l.length ≤ 100 ∧ app2 (bc_ m.Kind_ 1) (app2 (bc_ m.Tag_ 2) (encA l m)) = some (win y 4 (y.length - 4))
theorem cz_ (k t : Int) : (bW_ k t).small := ⟨by simp [bW_], by simp [bW_], by simp [bW_], by simp [bW_], kB_ (d := zeroDir) (by kernel_rfl)⟩
theorem get_none (s : Str) (a : Int) (h : a < 0 ∨ a > s.length) : cU_ s a 4 = some (0, 0, 1) := by
 unfold cU_
 refine ac_ ?_ rfl
 simp only [Bool.or_eq_true, decide_eq_true_eq]
 omega
theorem nd_ (s : Str) (a : Int) (hs : s.length ≤ 1000000) : ∃ m n e, bS_ s a = some (m, n, e) ∧ ((e ≠ 0 ∧ n = 0) ∨ (e = 0 ∧ ∃ A z : Nat, a = (A : Int) ∧ n = ((A + z : Nat) : Int) ∧ A + z ≤ s.length ∧ z = (win s A z).length ∧ Good m (win s A z))) := by
 unfold bS_
 by_cases ha : a < 0 ∨ a > s.length
 ·exact ⟨_, _, _, aa_ (get_none s a ha) rfl, .inl ⟨by decide, rfl⟩⟩
 obtain ⟨A, rfl⟩ : ∃ A : Nat, a = (A : Int) := ⟨a.toNat, by omega⟩
 have hA : A ≤ s.length := by omega
 have e0 := fW_ s A 4 (by omega) (by omega) hA (by omega)
 rw [show ((4 : Nat) : Int) = 4 from rfl] at e0
 by_cases c1 : s.length - A < 4
 ·rw [if_pos c1] at e0
  exact ⟨_, _, _, aa_ e0 rfl, .inl ⟨by decide, rfl⟩⟩
 rw [if_neg c1] at e0
 by_cases c2 : leV (win s A 4) > 9223372036854775807
 ·rw [if_pos c2] at e0
  exact ⟨_, _, _, aa_ e0 rfl, .inl ⟨by decide, rfl⟩⟩
 rw [if_neg c2] at e0
 generalize hz : leV (win s A 4) = z at e0 c2
 by_cases c3 : z > 8192
 ·exact ⟨_, _, _, aa_ e0 (ab_ rfl (ac_ (by simp; omega) rfl)), .inl ⟨by decide, rfl⟩⟩
 by_cases c4 : z < 7
 ·exact ⟨_, _, _, aa_ e0 (ab_ rfl (ab_ (by simp; omega) (ac_ (by simp; omega) rfl))), .inl ⟨by decide, rfl⟩⟩
 have el : w64 ((s.length : Int) - (A : Int)) = ((s.length - A : Nat) : Int) := by rw [am_ ⟨by omega, by omega⟩]; omega
 by_cases c5 : z > s.length - A
 ·exact ⟨_, _, _, aa_ e0 (ab_ rfl (ab_ (by simp; omega) (ab_ (by simp; omega) (ac_ (by rw [el]; simp; omega) rfl)))), .inl ⟨by decide, rfl⟩⟩
 have e1 := db_ s A z (by omega) (by omega)
 have hy : (win s A z).length = z := by_ (by omega)
 generalize hy' : win s A z = y at e1 hy
 have r0 : RS y ⟨y, ((4 : Nat) : Int), true⟩ := ⟨rfl, fun _ => ⟨4, rfl, by omega⟩⟩
 obtain ⟨kd, r1, e2, s1⟩ := nstep 1 (by omega) (by omega) r0 (by omega)
 obtain ⟨tg, r2, e3, s2⟩ := nstep 2 (by omega) (by omega) s1.rs (by omega)
 obtain ⟨L, e4, hn, hL⟩ := lay_any kd
 have hB : BIG = 18446744073709551616 := rfl
 obtain ⟨mf, r3, e5, s3, k1, k2, _, k4⟩ := gloop y (by omega) L hL L BIG 0 r2 (bW_ kd tg) rfl (by omega) hn (by omega) s2.rs
 obtain ⟨nm, e6⟩ := Option.get_some (eR_ mf.Kind_)
 have h3 : decide ((z : Int) > 8192) = false := by simp; omega
 have h4 : decide ((z : Int) < 7) = false := by simp; omega
 have h5 : decide ((z : Int) > w64 ((s.length : Int) - (A : Int))) = false := by rw [el]; simp; omega
 cases c6 : (((nm == []) || (!r3.ok_)) || (r3.at_ != (z : Int))) with
 | true => exact ⟨_, _, _, aa_ e0 (ab_ rfl (ab_ h3 (ab_ h4 (ab_ h5 (aa_ e1 (aa_ e2 (aa_ e3 (aa_ e4 (aa_ e5 (aa_ e6 (ac_ c6 rfl))))))))))), .inl ⟨by decide, rfl⟩⟩
 | false =>
  have c6' := c6
  simp only [Bool.or_eq_false_iff, Bool.not_eq_false', bne_eq_false_iff_eq] at c6
  obtain ⟨⟨_, ho⟩, hz2⟩ := c6
  have hsm := k4 ho (cz_ kd tg)
  obtain ⟨c, e7⟩ := hF_ mf hsm
  by_cases hc : c = 0
  ·subst hc
   have hyz : y = win s A z := hy'.symm
   clear hy'
   subst hyz
   refine ⟨_, _, _, aa_ e0 (ab_ rfl (ab_ h3 (ab_ h4 (ab_ h5 (aa_ e1 (aa_ e2 (aa_ e3 (aa_ e4 (aa_ e5 (aa_ e6 (ab_ c6' (aa_ e7 (ab_ rfl rfl))))))))))))), .inr ⟨rfl, A, z, rfl, ?_, by omega, by omega, hsm, e7, ?_, by omega, by omega, L, ?_, hL, ?_⟩⟩
   ·rw [am_ ⟨by omega, by omega⟩]; omega
   ·have hw : win (win s A z) 0 4 = win s A 4 := by
     simp only [win, List.drop_zero, List.take_take]
     congr 1
     omega
    rw [hw, hz, hy]
   ·rw [k1]; exact e4
   ·have hst := s1.comp (s2.comp s3)
    obtain ⟨_, p, p', q1, q2, q3, q4, q5⟩ := hst.2 ho
    have hp : p = 4 := by have : ((4 : Nat) : Int) = (p : Int) := q1; omega
    have hp' : p' = (win s A z).length := by omega
    rw [k1, k2]
    subst hp hp'
    exact q5
  ·have hc' : (c != 0) = true := by simpa using hc
   exact ⟨_, _, _, aa_ e0 (ab_ rfl (ab_ h3 (ab_ h4 (ab_ h5 (aa_ e1 (aa_ e2 (aa_ e3 (aa_ e4 (aa_ e5 (aa_ e6 (ab_ c6' (aa_ e7 (ac_ hc' rfl))))))))))))), .inl ⟨hc, rfl⟩⟩
end Go.Proofs.YtolgkhjkdadhiaaGreat
namespace Go.Proofs.YtolgkhjkdadhiaaGreat
open Go.Rt Go.RowKit
theorem fZ_ {a b : Option Str} {t : Str} (h : app2 a b = some t) : ∃ x y, a = some x ∧ b = some y ∧ t = x ++ y := by
 cases a with
 | none => cases h
 | some x =>
  cases b with
  | none => cases h
  | some y => exact ⟨x, y, rfl, rfl, (Option.some.inj h).symm⟩
theorem wput_loop (m : api_Msg) (L : List Lt) (hL : L.length ≤ 100) : ∀ (k fuel i : Nat) (w t : Str), i + k = L.length → k < fuel → encA (L.drop i) m = some t → w.length + t.length ≤ 9223372036854775807 → an_ (iv_ (dM_ L) m) fuel ((i : Int), ⟨w, 0⟩) = some ⟨w ++ t, 0⟩
 | 0, fuel + 1, i, w, t, hi, _, he, _ => by
  rw [show L.drop i = [] from List.drop_eq_nil_of_le (by omega)] at he
  cases he
  refine ar_ ?_
  unfold iv_
  exact ab_ (by rw [e9_]; simp; omega) (by simp)
 | k + 1, fuel + 1, i, w, t, hi, hk, he, h => by
  have hlt : i < L.length := by omega
  rw [List.drop_eq_getElem_cons hlt, kC_] at he
  obtain ⟨a, b, h1, h2, rfl⟩ := fZ_ he
  simp only [List.length_append] at h
  have ih := wput_loop m L hL k fuel (i + 1) (w ++ a) b (by omega) (by omega) h2 (by simp only [List.length_append]; omega)
  rw [List.append_assoc] at ih
  refine ay_ ?_ ih
  unfold iv_
  refine ac_ (by rw [e9_]; simp; omega) (aa_ (kD_ L i hlt) (aa_ (wfield _ m w a h1 (by omega)) ?_))
  rw [am_ (n := (i : Int) + 1) ⟨by omega, by omega⟩]; rfl
theorem fits4 (n : Nat) (h : n ≤ 4294967295) : bx_ (n : Int) 4 = true := by
 unfold bx_
 simp only [Bool.and_eq_true, Bool.or_eq_true, decide_eq_true_eq]
 exact ⟨by omega, .inr (by omega)⟩
theorem put_fwd (m : api_Msg) (L : List Lt) (t : Str) (hc : aX_ m = some 0) (hl : bz_ m.Kind_ = some (dM_ L)) (hL : L.length ≤ 100) (he : app2 (bc_ m.Kind_ 1) (app2 (bc_ m.Tag_ 2) (encA L m)) = some t) (ht : t.length ≤ 1152921504606846976) :
  dx_ m = some (if t.length + 4 ≤ 8192 then (leB ((t.length + 4 : Nat) : Int) 4 ++ t, 0) else ([], 4)) := by
 obtain ⟨t1, u, h1, hu, rfl⟩ := fZ_ he
 obtain ⟨t2, t3, h2, h3, rfl⟩ := fZ_ hu
 have hB : BIG = 18446744073709551616 := rfl
 simp only [List.length_append] at ht
 have e3 := eL_ (w := []) (k := 1) (by omega) (by omega) h1 (by simp; omega)
 have e4 := eL_ (w := [] ++ t1) (k := 2) (by omega) (by omega) h2 (by simp; omega)
 have e5 := wput_loop m L hL L.length BIG 0 ([] ++ t1 ++ t2) t3 (by omega) (by omega) h3 (by simp; omega)
 simp only [List.nil_append, List.append_assoc] at e3 e4 e5
 unfold dx_
 generalize hT : t1 ++ (t2 ++ t3) = T at e5 ⊢
 have hTl : T.length ≤ 1152921504606846976 := by rw [← hT]; simp only [List.length_append]; omega
 refine aa_ hc (ab_ rfl (aa_ e3 (aa_ e4 (aa_ hl (aa_ e5 (ab_ rfl ?_))))))
 have el : w64 ((T.length : Int) + 4) = ((T.length + 4 : Nat) : Int) := by rw [am_ ⟨by omega, by omega⟩]; omega
 simp only [el]
 by_cases c : T.length + 4 ≤ 8192
 ·rw [if_pos c]
  have e6 := i4_ ((T.length + 4 : Nat) : Int) 4 (by omega) (by omega)
  rw [if_pos (fits4 _ (by omega))] at e6
  exact ab_ (by simp; omega) (aa_ e6 (aa_ (c4_ (by rw [ap_]; omega)) rfl))
 ·rw [if_neg c]
  exact ac_ (by simp; omega) rfl
end Go.Proofs.YtolgkhjkdadhiaaGreat
