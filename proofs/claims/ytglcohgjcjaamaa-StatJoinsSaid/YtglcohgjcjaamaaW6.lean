/-
  The walks: each Go function computes what its namesake on plain data says: printed by a program of ours (gosh.py) off the translation.
-/
import Derived.Test.YtglcohgjcjaamaaW5
namespace Go.Proofs.Ytglcohgjcjaamaa
open Go.Rt Go.RowKit

/-- strings.HasPrefix -/
theorem W_strings_HasPrefix (x0 : Str) (x1 : Str) (r : Bool) (hF : strings_HasPrefix x0 x1 = some r) (w0 : World)  : Ret Try.prog 70 #[S x0, S x1] w0 fun v w => v = .bool r ∧ Sep [] w0 w [] := by
  refine enter Try.func70 rfl rfl rfl fun a hE => ?_
  have hS := Sep.start [] w0
  unfold strings_HasPrefix at hF
  refine wp_seq ?_
  refine r_list ?_
  refine st_pure hE rfl 4 rfl rfl (.bool false) (by kernel_rfl) fun a hE => ?_
  refine st_nil ?_
  refine n_then ?_
  refine wp_seq ?_
  refine r_list ?_
  refine st_pure hE rfl 5 rfl rfl (S x0) (by kernel_rfl) fun a hE => ?_
  refine st_pure hE rfl 6 rfl rfl (S x1) (by kernel_rfl) fun a hE => ?_
  obtain ⟨y1, h1, hF⟩ := bind_some hF
  refine go_call hE rfl 7 rfl rfl 79 _ (by kernel_rfl) (W_internal_stringslite_HasPrefix x0 x1 _ h1 _ ) fun a v w hR hE => ?_
  obtain ⟨rfl, hq⟩ := hR
  have hS := hS.call hq rfl
  refine st_pure hE rfl 4 rfl rfl (.bool y1) (by kernel_rfl) fun a hE => ?_
  refine st_nil ?_
  refine n_then ?_
  refine wp_ret ?_
  obtain rfl := Option.some.inj hF
  exact out (rs := [.tmp 4]) (vs := [.bool y1]) rfl hE hS (.cons (.tmp rfl) .nil) ⟨rfl, hS.pick [] rfl rfl⟩
end Go.Proofs.Ytglcohgjcjaamaa
