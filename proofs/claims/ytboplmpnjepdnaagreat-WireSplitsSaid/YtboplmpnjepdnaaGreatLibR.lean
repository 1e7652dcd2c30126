/-
  The kit's contracts on strings.Repeat and strings.Count, laid at this program and said in the words of the second engine.
-/
import Derived.Test.YtboplmpnjepdnaaGreatTe
import Derived.Test.YtboplmpnjepdnaaGreatShelf
namespace Go.Proofs.YtboplmpnjepdnaaGreat
open Go.Shelf Go.RowKit Go.Rt

theorem Tryz.extraRepeat : Builder.Extra Tryz.prog Tryz.laysRepeat_ren where
  sizeBuilder := by kernel_rfl
  liesBuilder := by kernel_rfl
  t5 := Tryz.laysRepeat.t5
  a5 := Tryz.laysRepeat.a5
  z5 := Tryz.laysRepeat.z5
  v5 := Tryz.laysRepeat.v5
  infoByte := by kernel_rfl
  cellsByte := by kernel_rfl
  sizeByte := by kernel_rfl
  neB5 := by decide
theorem fRepeat : Tryz.laysRepeat_ren.f 105 = 115 := by kernel_rfl
theorem fCount : Tryz.laysCount_ren.f 138 = 127 := by kernel_rfl
theorem repeatL_eq (l : List UInt8) : ∀ c, Lib.repeatL l c = (List.replicate c l).flatten
  | 0 => rfl
  | c + 1 => by rw [Lib.repeatL, repeatL_eq l c, List.replicate_succ, List.flatten_cons]
theorem W_strings_Repeat (x0 : Str) (x1 : Int) (r : Str) (hF : strings_Repeat x0 x1 = some r) (w0 : World) : Ret Tryz.prog 115 #[S x0, .int .i64 x1] w0 fun v w => v = S r ∧ Ext w0 w := by
  unfold strings_Repeat at hF
  split at hF
  · rename_i h
    obtain ⟨h0, h1, h2⟩ := h
    simp only [Option.some.injEq] at hF
    subst hF
    obtain ⟨c, rfl⟩ : ∃ c : Nat, x1 = (c : Int) := ⟨x1.toNat, by omega⟩
    have hh := Any.strings_Repeat Tryz.laysRepeat Tryz.extraRepeat ⟨x0.toArray⟩ c w0 (by omega) (by rw [size_mk]; simpa using h2)
    rw [fRepeat] at hh
    refine Calls.mono hh fun e w ⟨he, hb⟩ => ⟨_, he, ?_, Ext.of_below hb⟩
    simp [S, repeatL_eq]
  · cases hF
theorem W_strings_Count (x0 x1 : Str) (r : Int) (hF : strings_Count x0 x1 = some r) (w0 : World) : Ret Tryz.prog 127 #[S x0, S x1] w0 fun v w => v = .int .i64 r ∧ Ext w0 w := by
  unfold strings_Count at hF
  split at hF
  · rename_i c
    simp only [Option.some.injEq] at hF
    subst hF
    have hh := Any.strings_Count_one Tryz.laysCount ⟨x0.toArray⟩ c w0
    rw [fCount] at hh
    refine Calls.mono hh fun e w ⟨he, hb⟩ => ⟨_, he, ?_, ?_⟩
    · simp [Lib.countByte]
    · subst hb; exact Ext.refl _
  · cases hF
def con_strings_Repeat : Con te := conOf te [.d .str, .d (.int .i64)] [(.str, [])] false fun a => strings_Repeat a.1 a.2.1
theorem ok_con_strings_Repeat : Con.OK Tryz.prog te 115 con_strings_Repeat ∧ bodyB Tryz.prog 115 = true := by
  refine ⟨fun R a k r hr => ?_, by kernel_rfl⟩
  obtain ⟨y, h1, h2⟩ := bind_some hr
  exact ⟨_, _, h2, callOK_flat (y := y) rfl rfl rfl rfl rfl fun w => W_strings_Repeat a.1 a.2.1 y h1 w⟩
def con_strings_Count : Con te := conOf te [.d .str, .d .str] [(.int .i64, [])] false fun a => strings_Count a.1 a.2.1
theorem ok_con_strings_Count : Con.OK Tryz.prog te 127 con_strings_Count ∧ bodyB Tryz.prog 127 = true := by
  refine ⟨fun R a k r hr => ?_, by kernel_rfl⟩
  obtain ⟨y, h1, h2⟩ := bind_some hr
  exact ⟨_, _, h2, callOK_flat (y := y) rfl rfl rfl rfl rfl fun w => W_strings_Count a.1 a.2.1 y h1 w⟩
end Go.Proofs.YtboplmpnjepdnaaGreat
