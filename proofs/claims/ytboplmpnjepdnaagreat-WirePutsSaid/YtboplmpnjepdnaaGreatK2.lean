/-
  What the engine says of each function: printed by a program of ours (gosh2.py) off the translation.
-/
import Derived.Test.YtboplmpnjepdnaaGreatK1
namespace Go.Proofs.YtboplmpnjepdnaaGreat
open Go.Rt Go.RowKit

/-- filespace/filespaceref09.list -/
theorem e_56 (a : PA te [.d (.st 9), .d (.st 2), .d (.int .i64)]) : ref09_list a.1 a.2.1 a.2.2.1 = evFun Tryz.prog te eqL (tb 96 c_96 (tb 54 c_54 (tb 53 c_53 (tb 25 c_25 tnil)))) Tryz.f56 [.d (.st 9), .d (.st 2), .d (.int .i64)] [(.st 9, [])] (.s .p (.j ⟨[], [(0, true, .box 56 (.st 9))], [3, 6], [4], [], 6⟩ false (.s .p (.s .p (.s (.s .p (.s .p (.lp ⟨[(7, .d (.int .i64))], [(0, true, .box 56 (.st 9))], [3, 4, 6], [2, 4], [], 17⟩ ⟨[], [(0, true, .box 56 (.st 9))], [3, 6], [4], [], 17⟩ false (.s .p (.s (.dr [0, 0, 0, 0, 0, 0, 0, 2] [] false []) .p))))) (.s .p (.s (.s .p (.s .p (.lp ⟨[(8, .d (.int .i64))], [(0, true, .box 56 (.st 9))], [3, 4, 6], [2, 4], [], 19⟩ ⟨[], [(0, true, .box 56 (.st 9))], [3, 6], [4], [], 19⟩ false (.s .p (.s (.dr [0, 0, 0, 0, 0, 0, 0, 2] [] false []) .p))))) (.s .p (.s .p (.s .p (.s (.s .p (.j ⟨[], [(0, true, .box 56 (.st 9))], [3, 6, 9], [4], [], 23⟩ false .p .p)) .p))))))))) .p)) a := by kernel_rfl
def c_56 : Con te := conOf te [.d (.st 9), .d (.st 2), .d (.int .i64)] [(.st 9, [])] false fun a => ref09_list a.1 a.2.1 a.2.2.1
theorem ok_56 : Con.OK Tryz.prog te 56 c_56 ∧ bodyB Tryz.prog 56 = true := ⟨conOf_ok eqL_ok (tb_ok ok_96 (tb_ok ok_54 (tb_ok ok_53 (tb_ok ok_25 tnil_ok)))) Tryz.func56 (by kernel_rfl) e_56, by kernel_rfl⟩
/-- filespace/filespaceref09.field -/
theorem e_26 (a : PA te [.d (.st 9), .d (.st 2), .d (.int .i64)]) : ref09_field a.1 a.2.1 a.2.2.1 = evFun Tryz.prog te eqL (tb 56 c_56 (tb 55 c_55 (tb 54 c_54 (tb 53 c_53 (tb 25 c_25 tnil))))) Tryz.f26 [.d (.st 9), .d (.st 2), .d (.int .i64)] [(.st 9, [])] (.s .p (.s (.s .p (.s .p (.s .p (.s .p (.s .p (.s .p (.s .p (.s .p (.s .p (.s .p (.s .p (.s .p (.s .p (.s .p (.s .p (.s .p (.s .p (.s .p (.s (.s (.dr [0, 0, 0, 0, 0, 2] [] false []) .p) .p))))))))))))))))))) .p)) a := by kernel_rfl
def c_26 : Con te := conOf te [.d (.st 9), .d (.st 2), .d (.int .i64)] [(.st 9, [])] false fun a => ref09_field a.1 a.2.1 a.2.2.1
theorem ok_26 : Con.OK Tryz.prog te 26 c_26 ∧ bodyB Tryz.prog 26 = true := ⟨conOf_ok eqL_ok (tb_ok ok_56 (tb_ok ok_55 (tb_ok ok_54 (tb_ok ok_53 (tb_ok ok_25 tnil_ok))))) Tryz.func26 (by kernel_rfl) e_26, by kernel_rfl⟩
/-- filespace/filespaceref09.Put -/
theorem e_9 (a : PA te [.d (.st 2)]) : ref09_Put a.1 = evFun Tryz.prog te eqL (tb 27 c_27 (tb 26 c_26 (tb 25 c_25 (tb 24 c_24 (tb 23 c_23 tnil))))) Tryz.f9 [.d (.st 2)] [(.str, []), (.int .i64, [])] (.s .p (.s .p (.s .p (.s (.dr [0, 0, 0, 0, 0, 0, 0, 1, 2] [] false []) (.s (.s .p (.lp ⟨[(8, .d (.int .i64))], [(24, true, .box 56 (.st 9))], [1, 5, 7], [0], [], 29⟩ ⟨[], [(24, true, .box 56 (.st 9))], [7], [], [], 29⟩ false (.s .p (.s (.dr [0, 0, 0, 0, 0, 0, 0, 2] [] false []) .p)))) (.s (.s .p (.s (.s (.dr [0, 0, 0, 0] [] false []) .p) .p)) .p)))))) a := by kernel_rfl
def c_9 : Con te := conOf te [.d (.st 2)] [(.str, []), (.int .i64, [])] false fun a => ref09_Put a.1
theorem ok_9 : Con.OK Tryz.prog te 9 c_9 ∧ bodyB Tryz.prog 9 = true := ⟨conOf_ok eqL_ok (tb_ok ok_27 (tb_ok ok_26 (tb_ok ok_25 (tb_ok ok_24 (tb_ok ok_23 tnil_ok))))) Tryz.func9 (by kernel_rfl) e_9, by kernel_rfl⟩
/-- filespace/filespaceref09.Size -/
theorem e_11 (a : PA te [.d (.st 2)]) : ref09_Size a.1 = evFun Tryz.prog te eqL (tb 9 c_9 tnil) Tryz.f11 [.d (.st 2)] [(.int .i64, [])] (.p : Pl) a := by kernel_rfl
def c_11 : Con te := conOf te [.d (.st 2)] [(.int .i64, [])] false fun a => ref09_Size a.1
theorem ok_11 : Con.OK Tryz.prog te 11 c_11 ∧ bodyB Tryz.prog 11 = true := ⟨conOf_ok eqL_ok (tb_ok ok_9 tnil_ok) Tryz.func11 (by kernel_rfl) e_11, by kernel_rfl⟩
/-- filespace/filespacelaw09.WirePuts -/
theorem e_3 (a : PA te [.d (.st 2)]) : law09_WirePuts a.1 = evFun Tryz.prog te eqL (tb 11 c_11 (tb 10 c_10 (tb 9 c_9 (tb 8 c_8 (tb 7 c_7 (tb 6 c_6 tnil)))))) Tryz.f3 [.d (.st 2)] [(.bool, [])] (.s .p (.s .p (.s .p (.s .p (.s (.dr [0, 0, 0, 0, 0, 0, 0, 0, 0, 0, 0, 0, 0, 0, 0, 0, 0, 0, 0] [] false []) .p))))) a := by kernel_rfl
def c_3 : Con te := conOf te [.d (.st 2)] [(.bool, [])] false fun a => law09_WirePuts a.1
theorem ok_3 : Con.OK Tryz.prog te 3 c_3 ∧ bodyB Tryz.prog 3 = true := ⟨conOf_ok eqL_ok (tb_ok ok_11 (tb_ok ok_10 (tb_ok ok_9 (tb_ok ok_8 (tb_ok ok_7 (tb_ok ok_6 tnil_ok)))))) Tryz.func3 (by kernel_rfl) e_3, by kernel_rfl⟩
end Go.Proofs.YtboplmpnjepdnaaGreat
