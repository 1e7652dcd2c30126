/-
  The walks: each Go function computes what its namesake on plain data says: printed by a program of ours (gosh.py) off the translation.
-/
import Derived.Test.YtglcohgjcjaamaaW3
namespace Go.Proofs.Ytglcohgjcjaamaa
open Go.Rt Go.RowKit

/-- filespace/filespacelaw07.short -/
theorem W_law07_short (x0 : api_Dir) (r : Bool) (hF : law07_short x0 = some r) (w0 : World)  : Ret Try.prog 27 #[.agg (api_Dir.enc x0).toArray] w0 fun v w => v = .bool r ∧ Sep [] w0 w [] := by
  refine enter Try.func27 rfl rfl rfl fun a hE => ?_
  have hS := Sep.start [] w0
  unfold law07_short at hF
  refine wp_seq ?_
  refine r_list ?_
  refine go_box hE hS rfl 1 rfl rfl 27 (api_Dir.enc x0) (fun _ => by kernel_rfl) fun a w b1 hx hE hS => ?_
  refine st_pure hE rfl 2 rfl rfl (.bool false) (by kernel_rfl) fun a hE => ?_
  refine st_nil ?_
  refine n_then ?_
  refine wp_seq ?_
  refine r_list ?_
  refine st_pure hE rfl 3 rfl rfl (.pointer (some ⟨b1, 9, none⟩)) (by kernel_rfl) fun a hE => ?_
  refine st_run hE rfl 4 rfl rfl (S x0.Name_) (ld_box hE hS 0 rfl rfl rfl (by kernel_rfl)) fun a hE => ?_
  refine st_pure hE rfl 5 rfl rfl (.int .i64 (x0.Name_.length : Int)) (by kernel_rfl) fun a hE => ?_
  refine st_pure hE rfl 6 rfl rfl (.bool (decide ((x0.Name_.length : Int) ≤ 1000))) (by kernel_rfl) fun a hE => ?_
  refine st_pure hE rfl 7 rfl rfl (.bool (decide ((x0.Name_.length : Int) ≤ 1000))) (by kernel_rfl) fun a hE => ?_
  refine st_cut 5 (fun a w => Env 25 a [(12, .bool ((decide ((x0.Name_.length : Int) ≤ 1000)) && (decide ((x0.Uid_.length : Int) ≤ 1000)))), (1, .pointer (some ⟨b1, 0, none⟩))] ∧ Sep [] w0 w [.box b1 27 (api_Dir.enc x0)]) ?_ ?_
  · rcases Bool.eq_false_or_eq_true (decide ((x0.Name_.length : Int) ≤ 1000)) with hb | hb
    · have hE := hE.bool (t := 7) rfl hb
      refine st_pure hE rfl 8 rfl rfl (.pointer (some ⟨b1, 10, none⟩)) (by kernel_rfl) fun a hE => ?_
      refine st_run hE rfl 9 rfl rfl (S x0.Uid_) (ld_box hE hS 0 rfl rfl rfl (by kernel_rfl)) fun a hE => ?_
      refine st_pure hE rfl 10 rfl rfl (.int .i64 (x0.Uid_.length : Int)) (by kernel_rfl) fun a hE => ?_
      refine st_pure hE rfl 11 rfl rfl (.bool (decide ((x0.Uid_.length : Int) ≤ 1000))) (by kernel_rfl) fun a hE => ?_
      refine st_pure hE rfl 12 rfl rfl (.bool (decide ((x0.Uid_.length : Int) ≤ 1000))) (by kernel_rfl) fun a hE => ?_
      have hE := hE.re (t := 12) rfl (congrArg Value.bool (and_t (e := (decide ((x0.Uid_.length : Int) ≤ 1000))) hb))
      exact st_nil (n_then ⟨hE.sel ⟨rfl, rfl, trivial⟩, hS⟩)
    · have hE := hE.bool (t := 7) rfl hb
      refine st_not hE rfl 8 rfl rfl fun a hE => ?_
      refine st_not hE rfl 9 rfl rfl fun a hE => ?_
      refine st_not hE rfl 10 rfl rfl fun a hE => ?_
      refine st_not hE rfl 11 rfl rfl fun a hE => ?_
      refine st_pure hE rfl 12 rfl rfl (.bool false) (by kernel_rfl) fun a hE => ?_
      have hE := hE.re (t := 12) rfl (congrArg Value.bool (and_f (e := (decide ((x0.Uid_.length : Int) ≤ 1000))) hb))
      exact st_nil (n_then ⟨hE.sel ⟨rfl, rfl, trivial⟩, hS⟩)
  rintro a w ⟨hE, hS⟩
  refine st_pure hE rfl 13 rfl rfl (.bool ((decide ((x0.Name_.length : Int) ≤ 1000)) && (decide ((x0.Uid_.length : Int) ≤ 1000)))) (by kernel_rfl) fun a hE => ?_
  refine st_cut 5 (fun a w => Env 25 a [(18, .bool (((decide ((x0.Name_.length : Int) ≤ 1000)) && (decide ((x0.Uid_.length : Int) ≤ 1000))) && (decide ((x0.Gid_.length : Int) ≤ 1000)))), (1, .pointer (some ⟨b1, 0, none⟩))] ∧ Sep [] w0 w [.box b1 27 (api_Dir.enc x0)]) ?_ ?_
  · rcases Bool.eq_false_or_eq_true ((decide ((x0.Name_.length : Int) ≤ 1000)) && (decide ((x0.Uid_.length : Int) ≤ 1000))) with hb | hb
    · have hE := hE.bool (t := 13) rfl hb
      refine st_pure hE rfl 14 rfl rfl (.pointer (some ⟨b1, 11, none⟩)) (by kernel_rfl) fun a hE => ?_
      refine st_run hE rfl 15 rfl rfl (S x0.Gid_) (ld_box hE hS 0 rfl rfl rfl (by kernel_rfl)) fun a hE => ?_
      refine st_pure hE rfl 16 rfl rfl (.int .i64 (x0.Gid_.length : Int)) (by kernel_rfl) fun a hE => ?_
      refine st_pure hE rfl 17 rfl rfl (.bool (decide ((x0.Gid_.length : Int) ≤ 1000))) (by kernel_rfl) fun a hE => ?_
      refine st_pure hE rfl 18 rfl rfl (.bool (decide ((x0.Gid_.length : Int) ≤ 1000))) (by kernel_rfl) fun a hE => ?_
      have hE := hE.re (t := 18) rfl (congrArg Value.bool (and_t (e := (decide ((x0.Gid_.length : Int) ≤ 1000))) hb))
      exact st_nil (n_then ⟨hE.sel ⟨rfl, rfl, trivial⟩, hS⟩)
    · have hE := hE.bool (t := 13) rfl hb
      refine st_not hE rfl 14 rfl rfl fun a hE => ?_
      refine st_not hE rfl 15 rfl rfl fun a hE => ?_
      refine st_not hE rfl 16 rfl rfl fun a hE => ?_
      refine st_not hE rfl 17 rfl rfl fun a hE => ?_
      refine st_pure hE rfl 18 rfl rfl (.bool false) (by kernel_rfl) fun a hE => ?_
      have hE := hE.re (t := 18) rfl (congrArg Value.bool (and_f (e := (decide ((x0.Gid_.length : Int) ≤ 1000))) hb))
      exact st_nil (n_then ⟨hE.sel ⟨rfl, rfl, trivial⟩, hS⟩)
  rintro a w ⟨hE, hS⟩
  refine st_pure hE rfl 19 rfl rfl (.bool (((decide ((x0.Name_.length : Int) ≤ 1000)) && (decide ((x0.Uid_.length : Int) ≤ 1000))) && (decide ((x0.Gid_.length : Int) ≤ 1000)))) (by kernel_rfl) fun a hE => ?_
  refine st_cut 5 (fun a w => Env 25 a [(24, .bool ((((decide ((x0.Name_.length : Int) ≤ 1000)) && (decide ((x0.Uid_.length : Int) ≤ 1000))) && (decide ((x0.Gid_.length : Int) ≤ 1000))) && (decide ((x0.Muid_.length : Int) ≤ 1000))))] ∧ Sep [] w0 w [.box b1 27 (api_Dir.enc x0)]) ?_ ?_
  · rcases Bool.eq_false_or_eq_true (((decide ((x0.Name_.length : Int) ≤ 1000)) && (decide ((x0.Uid_.length : Int) ≤ 1000))) && (decide ((x0.Gid_.length : Int) ≤ 1000))) with hb | hb
    · have hE := hE.bool (t := 19) rfl hb
      refine st_pure hE rfl 20 rfl rfl (.pointer (some ⟨b1, 12, none⟩)) (by kernel_rfl) fun a hE => ?_
      refine st_run hE rfl 21 rfl rfl (S x0.Muid_) (ld_box hE hS 0 rfl rfl rfl (by kernel_rfl)) fun a hE => ?_
      refine st_pure hE rfl 22 rfl rfl (.int .i64 (x0.Muid_.length : Int)) (by kernel_rfl) fun a hE => ?_
      refine st_pure hE rfl 23 rfl rfl (.bool (decide ((x0.Muid_.length : Int) ≤ 1000))) (by kernel_rfl) fun a hE => ?_
      refine st_pure hE rfl 24 rfl rfl (.bool (decide ((x0.Muid_.length : Int) ≤ 1000))) (by kernel_rfl) fun a hE => ?_
      have hE := hE.re (t := 24) rfl (congrArg Value.bool (and_t (e := (decide ((x0.Muid_.length : Int) ≤ 1000))) hb))
      exact st_nil (n_then ⟨hE.sel ⟨rfl, trivial⟩, hS⟩)
    · have hE := hE.bool (t := 19) rfl hb
      refine st_not hE rfl 20 rfl rfl fun a hE => ?_
      refine st_not hE rfl 21 rfl rfl fun a hE => ?_
      refine st_not hE rfl 22 rfl rfl fun a hE => ?_
      refine st_not hE rfl 23 rfl rfl fun a hE => ?_
      refine st_pure hE rfl 24 rfl rfl (.bool false) (by kernel_rfl) fun a hE => ?_
      have hE := hE.re (t := 24) rfl (congrArg Value.bool (and_f (e := (decide ((x0.Muid_.length : Int) ≤ 1000))) hb))
      exact st_nil (n_then ⟨hE.sel ⟨rfl, trivial⟩, hS⟩)
  rintro a w ⟨hE, hS⟩
  refine st_pure hE rfl 2 rfl rfl (.bool ((((decide ((x0.Name_.length : Int) ≤ 1000)) && (decide ((x0.Uid_.length : Int) ≤ 1000))) && (decide ((x0.Gid_.length : Int) ≤ 1000))) && (decide ((x0.Muid_.length : Int) ≤ 1000)))) (by kernel_rfl) fun a hE => ?_
  refine st_nil ?_
  refine n_then ?_
  refine wp_ret ?_
  obtain rfl := Option.some.inj hF
  exact out (rs := [.tmp 2]) (vs := [.bool ((((decide ((x0.Name_.length : Int) ≤ 1000)) && (decide ((x0.Uid_.length : Int) ≤ 1000))) && (decide ((x0.Gid_.length : Int) ≤ 1000))) && (decide ((x0.Muid_.length : Int) ≤ 1000)))]) rfl hE hS (.cons (.tmp rfl) .nil) ⟨rfl, hS.pick [] rfl rfl⟩
/-- filespace/octet.Get -/
theorem W_octet_Get (x0 : Str) (x1 : Int) (x2 : Int) (r : Int × Int × Int) (hF : octet_Get x0 x1 x2 = some r) (w0 : World)  : Ret Try.prog 59 #[S x0, .int .i64 x1, .int .i64 x2] w0 fun v w => v = .tuple #[.int .i64 r.1, .int .i64 r.2.1, .int .i64 r.2.2] ∧ Sep [] w0 w [] := by
  refine enter Try.func59 rfl rfl rfl fun a hE => ?_
  have hS := Sep.start [] w0
  unfold octet_Get at hF
  refine wp_seq ?_
  refine r_list ?_
  refine st_pure hE rfl 6 rfl rfl (.int .i64 0) (by kernel_rfl) fun a hE => ?_
  refine st_pure hE rfl 7 rfl rfl (.int .i64 0) (by kernel_rfl) fun a hE => ?_
  refine st_pure hE rfl 8 rfl rfl (.int .i64 0) (by kernel_rfl) fun a hE => ?_
  refine st_nil ?_
  refine n_then ?_
  refine wp_seq ?_
  refine wp_seq ?_
  refine r_list ?_
  refine st_pure hE rfl 11 rfl rfl (.int .i64 x2) (by kernel_rfl) fun a hE => ?_
  refine st_pure hE rfl 12 rfl rfl (.bool (decide (x2 < 1))) (by kernel_rfl) fun a hE => ?_
  refine st_pure hE rfl 13 rfl rfl (.bool (decide (x2 < 1))) (by kernel_rfl) fun a hE => ?_
  refine st_cut 3 (fun a w => Env 55 a [(16, .bool ((decide (x2 < 1)) || (decide (x2 > 8)))), (0, S x0), (1, .int .i64 x1), (2, .int .i64 x2)] ∧ Sep [] w0 w []) ?_ ?_
  · rcases Bool.eq_false_or_eq_true (decide (x2 < 1)) with hb | hb
    · have hE := hE.bool (t := 13) rfl hb
      refine st_not hE rfl 14 rfl rfl fun a hE => ?_
      refine st_not hE rfl 15 rfl rfl fun a hE => ?_
      refine st_pure hE rfl 16 rfl rfl (.bool true) (by kernel_rfl) fun a hE => ?_
      have hE := hE.re (t := 16) rfl (congrArg Value.bool (or_t (e := (decide (x2 > 8))) hb))
      exact st_nil (n_then ⟨hE.sel ⟨rfl, rfl, rfl, rfl, trivial⟩, hS⟩)
    · have hE := hE.bool (t := 13) rfl hb
      refine st_pure hE rfl 14 rfl rfl (.int .i64 x2) (by kernel_rfl) fun a hE => ?_
      refine st_pure hE rfl 15 rfl rfl (.bool (decide (x2 > 8))) (by kernel_rfl) fun a hE => ?_
      refine st_pure hE rfl 16 rfl rfl (.bool (decide (x2 > 8))) (by kernel_rfl) fun a hE => ?_
      have hE := hE.re (t := 16) rfl (congrArg Value.bool (or_f (e := (decide (x2 > 8))) hb))
      exact st_nil (n_then ⟨hE.sel ⟨rfl, rfl, rfl, rfl, trivial⟩, hS⟩)
  rintro a w ⟨hE, hS⟩
  refine st_pure hE rfl 17 rfl rfl (.bool ((decide (x2 < 1)) || (decide (x2 > 8)))) (by kernel_rfl) fun a hE => ?_
  refine st_cut 3 (fun a w => Env 55 a [(20, .bool (((decide (x2 < 1)) || (decide (x2 > 8))) || (decide (x1 < 0)))), (0, S x0), (1, .int .i64 x1), (2, .int .i64 x2)] ∧ Sep [] w0 w []) ?_ ?_
  · rcases Bool.eq_false_or_eq_true ((decide (x2 < 1)) || (decide (x2 > 8))) with hb | hb
    · have hE := hE.bool (t := 17) rfl hb
      refine st_not hE rfl 18 rfl rfl fun a hE => ?_
      refine st_not hE rfl 19 rfl rfl fun a hE => ?_
      refine st_pure hE rfl 20 rfl rfl (.bool true) (by kernel_rfl) fun a hE => ?_
      have hE := hE.re (t := 20) rfl (congrArg Value.bool (or_t (e := (decide (x1 < 0))) hb))
      exact st_nil (n_then ⟨hE.sel ⟨rfl, rfl, rfl, rfl, trivial⟩, hS⟩)
    · have hE := hE.bool (t := 17) rfl hb
      refine st_pure hE rfl 18 rfl rfl (.int .i64 x1) (by kernel_rfl) fun a hE => ?_
      refine st_pure hE rfl 19 rfl rfl (.bool (decide (x1 < 0))) (by kernel_rfl) fun a hE => ?_
      refine st_pure hE rfl 20 rfl rfl (.bool (decide (x1 < 0))) (by kernel_rfl) fun a hE => ?_
      have hE := hE.re (t := 20) rfl (congrArg Value.bool (or_f (e := (decide (x1 < 0))) hb))
      exact st_nil (n_then ⟨hE.sel ⟨rfl, rfl, rfl, rfl, trivial⟩, hS⟩)
  rintro a w ⟨hE, hS⟩
  refine st_pure hE rfl 21 rfl rfl (.bool (((decide (x2 < 1)) || (decide (x2 > 8))) || (decide (x1 < 0)))) (by kernel_rfl) fun a hE => ?_
  refine st_cut 5 (fun a w => Env 55 a [(26, .bool ((((decide (x2 < 1)) || (decide (x2 > 8))) || (decide (x1 < 0))) || (decide (x1 > (x0.length : Int))))), (0, S x0), (1, .int .i64 x1), (2, .int .i64 x2)] ∧ Sep [] w0 w []) ?_ ?_
  · rcases Bool.eq_false_or_eq_true (((decide (x2 < 1)) || (decide (x2 > 8))) || (decide (x1 < 0))) with hb | hb
    · have hE := hE.bool (t := 21) rfl hb
      refine st_not hE rfl 22 rfl rfl fun a hE => ?_
      refine st_not hE rfl 23 rfl rfl fun a hE => ?_
      refine st_not hE rfl 24 rfl rfl fun a hE => ?_
      refine st_not hE rfl 25 rfl rfl fun a hE => ?_
      refine st_pure hE rfl 26 rfl rfl (.bool true) (by kernel_rfl) fun a hE => ?_
      have hE := hE.re (t := 26) rfl (congrArg Value.bool (or_t (e := (decide (x1 > (x0.length : Int)))) hb))
      exact st_nil (n_then ⟨hE.sel ⟨rfl, rfl, rfl, rfl, trivial⟩, hS⟩)
    · have hE := hE.bool (t := 21) rfl hb
      refine st_pure hE rfl 22 rfl rfl (.int .i64 x1) (by kernel_rfl) fun a hE => ?_
      refine st_pure hE rfl 23 rfl rfl (S x0) (by kernel_rfl) fun a hE => ?_
      refine st_pure hE rfl 24 rfl rfl (.int .i64 (x0.length : Int)) (by kernel_rfl) fun a hE => ?_
      refine st_pure hE rfl 25 rfl rfl (.bool (decide (x1 > (x0.length : Int)))) (by kernel_rfl) fun a hE => ?_
      refine st_pure hE rfl 26 rfl rfl (.bool (decide (x1 > (x0.length : Int)))) (by kernel_rfl) fun a hE => ?_
      have hE := hE.re (t := 26) rfl (congrArg Value.bool (or_f (e := (decide (x1 > (x0.length : Int)))) hb))
      exact st_nil (n_then ⟨hE.sel ⟨rfl, rfl, rfl, rfl, trivial⟩, hS⟩)
  rintro a w ⟨hE, hS⟩
  refine st_nil ?_
  refine n_then ?_
  rcases Bool.eq_false_or_eq_true ((((decide (x2 < 1)) || (decide (x2 > 8))) || (decide (x1 < 0))) || (decide (x1 > (x0.length : Int)))) with hb | hb
  · have hF := if_t hF hb
    refine c_true hE rfl hb ?_
    refine wp_seq ?_
    refine r_list ?_
    refine st_pure hE rfl 6 rfl rfl (.int .i64 0) (by kernel_rfl) fun a hE => ?_
    refine st_pure hE rfl 7 rfl rfl (.int .i64 0) (by kernel_rfl) fun a hE => ?_
    refine st_pure hE rfl 8 rfl rfl (.int .i64 1) (by kernel_rfl) fun a hE => ?_
    refine st_nil ?_
    refine n_then ?_
    refine wp_ret ?_
    obtain rfl := Option.some.inj hF
    refine r_then ?_
    exact out (rs := [.tmp 6, .tmp 7, .tmp 8]) (vs := [.int .i64 0, .int .i64 0, .int .i64 1]) rfl hE hS (.cons (.tmp rfl) (.cons (.tmp rfl) (.cons (.tmp rfl) .nil))) ⟨rfl, hS.pick [] rfl rfl⟩
  have hF := if_f hF hb
  refine c_false hE rfl hb ?_
  refine wp_skip ?_
  refine n_then ?_
  refine wp_seq ?_
  refine wp_seq ?_
  refine r_list ?_
  refine st_pure hE rfl 27 rfl rfl (S x0) (by kernel_rfl) fun a hE => ?_
  refine st_pure hE rfl 28 rfl rfl (.int .i64 (x0.length : Int)) (by kernel_rfl) fun a hE => ?_
  refine st_pure hE rfl 29 rfl rfl (.int .i64 x1) (by kernel_rfl) fun a hE => ?_
  refine st_pure hE rfl 30 rfl rfl (.int .i64 (w64 ((x0.length : Int) - x1))) (by kernel_rfl) fun a hE => ?_
  refine st_pure hE rfl 31 rfl rfl (.int .i64 x2) (by kernel_rfl) fun a hE => ?_
  refine st_pure hE rfl 32 rfl rfl (.bool (decide ((w64 ((x0.length : Int) - x1)) < x2))) (by kernel_rfl) fun a hE => ?_
  refine st_nil ?_
  refine n_then ?_
  rcases Bool.eq_false_or_eq_true (decide ((w64 ((x0.length : Int) - x1)) < x2)) with hb | hb
  · have hF := if_t hF hb
    refine c_true hE rfl hb ?_
    refine wp_seq ?_
    refine r_list ?_
    refine st_pure hE rfl 6 rfl rfl (.int .i64 0) (by kernel_rfl) fun a hE => ?_
    refine st_pure hE rfl 7 rfl rfl (.int .i64 0) (by kernel_rfl) fun a hE => ?_
    refine st_pure hE rfl 8 rfl rfl (.int .i64 3) (by kernel_rfl) fun a hE => ?_
    refine st_nil ?_
    refine n_then ?_
    refine wp_ret ?_
    obtain rfl := Option.some.inj hF
    refine r_then ?_
    exact out (rs := [.tmp 6, .tmp 7, .tmp 8]) (vs := [.int .i64 0, .int .i64 0, .int .i64 3]) rfl hE hS (.cons (.tmp rfl) (.cons (.tmp rfl) (.cons (.tmp rfl) .nil))) ⟨rfl, hS.pick [] rfl rfl⟩
  have hF := if_f hF hb
  refine c_false hE rfl hb ?_
  refine wp_skip ?_
  refine n_then ?_
  refine wp_seq ?_
  refine r_list ?_
  refine st_pure hE rfl 9 rfl rfl (.int .u64 0) (by kernel_rfl) fun a hE => ?_
  refine st_nil ?_
  refine n_then ?_
  refine wp_seq ?_
  refine wp_seq ?_
  refine r_list ?_
  refine st_pure hE rfl 33 rfl rfl (.int .i64 x2) (by kernel_rfl) fun a hE => ?_
  refine st_pure hE rfl 34 rfl rfl (.int .i64 (w64 (x2 - 1))) (by kernel_rfl) fun a hE => ?_
  refine st_pure hE rfl 10 rfl rfl (.int .i64 (w64 (x2 - 1))) (by kernel_rfl) fun a hE => ?_
  refine st_nil ?_
  refine n_then ?_
  obtain ⟨o1, g1, hF⟩ := bind_some hF
  refine w_meet (fun a w => Env 55 a [(1, .int .i64 x1), (2, .int .i64 x2), (9, .int .u64 o1)] ∧ Sep [] w0 w []) ?_ ?_
  · refine wp_block ?_
    refine loop_rule g1 (fun (s1 : Int × Int) a w => Env 55 a [(0, S x0), (1, .int .i64 x1), (2, .int .i64 x2), (9, .int .u64 s1.1), (10, .int .i64 s1.2)] ∧ Sep [] w0 w []) ?_ ?_
    · exact ⟨hE.sel ⟨rfl, rfl, rfl, rfl, rfl, trivial⟩, hS.pick [] rfl rfl⟩
    rintro s1 a w ⟨hE, hS⟩ st hB1 hD1
    unfold octet_Get_L1 at hB1
    refine wp_seq ?_
    refine wp_seq ?_
    refine r_list ?_
    refine st_pure hE rfl 35 rfl rfl (.int .i64 s1.2) (by kernel_rfl) fun a hE => ?_
    refine st_pure hE rfl 36 rfl rfl (.bool (decide (s1.2 ≥ 0))) (by kernel_rfl) fun a hE => ?_
    refine st_nil ?_
    refine n_then ?_
    rcases (Bool.eq_false_or_eq_true (decide (s1.2 ≥ 0))).symm with hb | hb
    · have hB1 := if_f hB1 hb
      refine c_false hE rfl hb ?_
      refine wp_exit ?_
      refine e_then (e_then (e_in ?_))
      obtain rfl := Option.some.inj hB1
      have hd := hD1 _ rfl
      subst hd
      refine n_then ?_
      exact ⟨hE.sel ⟨rfl, rfl, rfl, trivial⟩, hS.pick [] rfl rfl⟩
    have hB1 := if_t hB1 hb
    refine c_true hE rfl hb ?_
    refine wp_skip ?_
    refine n_then ?_
    refine wp_seq ?_
    refine wp_block ?_
    refine r_list ?_
    refine st_pure hE rfl 39 rfl rfl (.int .u64 s1.1) (by kernel_rfl) fun a hE => ?_
    refine st_pure hE rfl 40 rfl rfl (.int .u64 (IntKind.u64.wrap (s1.1 * 2 ^ 8))) (by kernel_rfl) fun a hE => ?_
    refine st_pure hE rfl 41 rfl rfl (S x0) (by kernel_rfl) fun a hE => ?_
    refine st_pure hE rfl 42 rfl rfl (.int .i64 x1) (by kernel_rfl) fun a hE => ?_
    refine st_pure hE rfl 43 rfl rfl (.int .i64 s1.2) (by kernel_rfl) fun a hE => ?_
    refine st_pure hE rfl 44 rfl rfl (.int .i64 (w64 (x1 + s1.2))) (by kernel_rfl) fun a hE => ?_
    obtain ⟨y1, h1, hB1⟩ := bind_some hB1
    refine st_run hE rfl 45 rfl rfl (.int .u8 y1) (run_byteI rfl (by kernel_rfl) (hE.eval rfl) (hE.eval rfl) h1) fun a hE => ?_
    refine st_pure hE rfl 46 rfl rfl (.int .u64 (IntKind.u64.wrap y1)) (by kernel_rfl) fun a hE => ?_
    refine st_pure hE rfl 47 rfl rfl (.int .u64 (orI .u64 (IntKind.u64.wrap (s1.1 * 2 ^ 8)) (IntKind.u64.wrap y1))) (by kernel_rfl) fun a hE => ?_
    refine st_pure hE rfl 9 rfl rfl (.int .u64 (orI .u64 (IntKind.u64.wrap (s1.1 * 2 ^ 8)) (IntKind.u64.wrap y1))) (by kernel_rfl) fun a hE => ?_
    refine st_nil ?_
    refine n_in ?_
    refine n_then ?_
    refine r_list ?_
    refine st_pure hE rfl 37 rfl rfl (.int .i64 s1.2) (by kernel_rfl) fun a hE => ?_
    refine st_pure hE rfl 38 rfl rfl (.int .i64 (w64 (s1.2 - 1))) (by kernel_rfl) fun a hE => ?_
    refine st_pure hE rfl 10 rfl rfl (.int .i64 (w64 (s1.2 - 1))) (by kernel_rfl) fun a hE => ?_
    refine st_nil ?_
    obtain rfl := Option.some.inj hB1
    refine n_then ?_
    exact ⟨_, rfl, hE.sel ⟨rfl, rfl, rfl, rfl, rfl, trivial⟩, hS.pick [] rfl rfl⟩
  rintro a w ⟨hE, hS⟩
  refine n_then ?_
  refine wp_seq ?_
  refine wp_seq ?_
  refine r_list ?_
  refine st_pure hE rfl 48 rfl rfl (.int .u64 o1) (by kernel_rfl) fun a hE => ?_
  refine st_pure hE rfl 49 rfl rfl (.bool (decide (o1 > 9223372036854775807))) (by kernel_rfl) fun a hE => ?_
  refine st_nil ?_
  refine n_then ?_
  rcases Bool.eq_false_or_eq_true (decide (o1 > 9223372036854775807)) with hb | hb
  · have hF := if_t hF hb
    refine c_true hE rfl hb ?_
    refine wp_seq ?_
    refine r_list ?_
    refine st_pure hE rfl 6 rfl rfl (.int .i64 0) (by kernel_rfl) fun a hE => ?_
    refine st_pure hE rfl 7 rfl rfl (.int .i64 0) (by kernel_rfl) fun a hE => ?_
    refine st_pure hE rfl 8 rfl rfl (.int .i64 5) (by kernel_rfl) fun a hE => ?_
    refine st_nil ?_
    refine n_then ?_
    refine wp_ret ?_
    obtain rfl := Option.some.inj hF
    refine r_then ?_
    exact out (rs := [.tmp 6, .tmp 7, .tmp 8]) (vs := [.int .i64 0, .int .i64 0, .int .i64 5]) rfl hE hS (.cons (.tmp rfl) (.cons (.tmp rfl) (.cons (.tmp rfl) .nil))) ⟨rfl, hS.pick [] rfl rfl⟩
  have hF := if_f hF hb
  refine c_false hE rfl hb ?_
  refine wp_skip ?_
  refine n_then ?_
  refine wp_seq ?_
  refine r_list ?_
  refine st_pure hE rfl 50 rfl rfl (.int .u64 o1) (by kernel_rfl) fun a hE => ?_
  refine st_pure hE rfl 51 rfl rfl (.int .i64 (IntKind.i64.wrap o1)) (by kernel_rfl) fun a hE => ?_
  refine st_pure hE rfl 52 rfl rfl (.int .i64 x1) (by kernel_rfl) fun a hE => ?_
  refine st_pure hE rfl 53 rfl rfl (.int .i64 x2) (by kernel_rfl) fun a hE => ?_
  refine st_pure hE rfl 54 rfl rfl (.int .i64 (w64 (x1 + x2))) (by kernel_rfl) fun a hE => ?_
  refine st_pure hE rfl 6 rfl rfl (.int .i64 (IntKind.i64.wrap o1)) (by kernel_rfl) fun a hE => ?_
  refine st_pure hE rfl 7 rfl rfl (.int .i64 (w64 (x1 + x2))) (by kernel_rfl) fun a hE => ?_
  refine st_pure hE rfl 8 rfl rfl (.int .i64 0) (by kernel_rfl) fun a hE => ?_
  refine st_nil ?_
  refine n_then ?_
  refine wp_ret ?_
  obtain rfl := Option.some.inj hF
  exact out (rs := [.tmp 6, .tmp 7, .tmp 8]) (vs := [.int .i64 (IntKind.i64.wrap o1), .int .i64 (w64 (x1 + x2)), .int .i64 0]) rfl hE hS (.cons (.tmp rfl) (.cons (.tmp rfl) (.cons (.tmp rfl) .nil))) ⟨rfl, hS.pick [] rfl rfl⟩
/-- (*filespace/stat.reader).number -/
theorem W_stat_reader_number (x0 : stat_reader) (x1 : Int) (r : Int × stat_reader) (hF : stat_reader_number x0 x1 = some r) (w0 : World) {b0 : Nat} (hp : w0.heap[b0]? = some (.cells (stat_reader.enc x0).toArray 77 (0, 0))) : Ret Try.prog 67 #[.pointer (some ⟨b0, 0, none⟩), .int .i64 x1] w0 fun v w => v = .int .i64 r.1 ∧ Sep [b0] w0 w [.box b0 77 (stat_reader.enc r.2)] := by
  refine enter Try.func67 rfl rfl rfl fun a hE => ?_
  have hS := Sep.borrow hp
  unfold stat_reader_number at hF
  refine wp_seq ?_
  refine r_list ?_
  refine st_pure hE rfl 4 rfl rfl (.int .i64 0) (by kernel_rfl) fun a hE => ?_
  refine st_nil ?_
  refine n_then ?_
  refine wp_seq ?_
  refine wp_seq ?_
  refine r_mix [] [(0, false), (1, false), (2, false), (3, false), (4, false), (5, false), (6, false), (7, false), (8, false), (9, false), (10, false), (11, false), (12, false), (13, false), (14, false), (15, false), (16, false), (17, false), (18, false)] rfl (by kernel_rfl) ?_
  have hW := hS
  have hX := hS.now
  refine mx_pure hE rfl rfl 9 rfl rfl (.pointer (some ⟨b0, 0, none⟩)) (by kernel_rfl) fun a hE => ?_
  refine mx_pure hE rfl rfl 10 rfl rfl (.pointer (some ⟨b0, 0, none⟩)) (by kernel_rfl) fun a hE => ?_
  refine mx_pure hE rfl rfl 11 rfl rfl (.pointer (some ⟨b0, 2, none⟩)) (by kernel_rfl) fun a hE => ?_
  refine mx_run hE rfl rfl 12 rfl rfl (.bool x0.ok_) (fun w hx => ld_box hE (hW.ext hx) 0 rfl rfl rfl (by kernel_rfl)) fun a hE => ?_
  refine mx_pure hE rfl rfl 13 rfl rfl (.bool (!x0.ok_)) (by kernel_rfl) fun a hE => ?_
  refine mx_pure hE rfl rfl 14 rfl rfl (.bool (!x0.ok_)) (by kernel_rfl) fun a hE => ?_
  refine mx_cut 13 (fun a => Env 68 a [(27, .bool ((!x0.ok_) || (decide ((w64 ((x0.s_.length : Int) - x0.at_)) < x1)))), (0, .pointer (some ⟨b0, 0, none⟩)), (1, .int .i64 x1)]) rfl ?_ (fun a hE => ?_)
  · rcases Bool.eq_false_or_eq_true (!x0.ok_) with hb | hb
    · have hE := hE.bool (t := 14) rfl hb
      refine mx_not hE rfl rfl 15 rfl rfl fun a hE => ?_
      refine mx_not hE rfl rfl 16 rfl rfl fun a hE => ?_
      refine mx_not hE rfl rfl 17 rfl rfl fun a hE => ?_
      refine mx_not hE rfl rfl 18 rfl rfl fun a hE => ?_
      refine mx_not hE rfl rfl 19 rfl rfl fun a hE => ?_
      refine mx_not hE rfl rfl 20 rfl rfl fun a hE => ?_
      refine mx_not hE rfl rfl 21 rfl rfl fun a hE => ?_
      refine mx_not hE rfl rfl 22 rfl rfl fun a hE => ?_
      refine mx_not hE rfl rfl 23 rfl rfl fun a hE => ?_
      refine mx_not hE rfl rfl 24 rfl rfl fun a hE => ?_
      refine mx_not hE rfl rfl 25 rfl rfl fun a hE => ?_
      refine mx_not hE rfl rfl 26 rfl rfl fun a hE => ?_
      refine mx_pure hE rfl rfl 27 rfl rfl (.bool true) (by kernel_rfl) fun a hE => ?_
      have hE := hE.re (t := 27) rfl (congrArg Value.bool (or_t (e := (decide ((w64 ((x0.s_.length : Int) - x0.at_)) < x1))) hb))
      exact mx_nil fun w hx => hE.sel ⟨rfl, rfl, rfl, trivial⟩
    · have hE := hE.bool (t := 14) rfl hb
      refine mx_pure hE rfl rfl 15 rfl rfl (.pointer (some ⟨b0, 0, none⟩)) (by kernel_rfl) fun a hE => ?_
      refine mx_pure hE rfl rfl 16 rfl rfl (.pointer (some ⟨b0, 0, none⟩)) (by kernel_rfl) fun a hE => ?_
      refine mx_pure hE rfl rfl 17 rfl rfl (.pointer (some ⟨b0, 0, none⟩)) (by kernel_rfl) fun a hE => ?_
      refine mx_run hE rfl rfl 18 rfl rfl (S x0.s_) (fun w hx => ld_box hE (hW.ext hx) 0 rfl rfl rfl (by kernel_rfl)) fun a hE => ?_
      refine mx_pure hE rfl rfl 19 rfl rfl (.int .i64 (x0.s_.length : Int)) (by kernel_rfl) fun a hE => ?_
      refine mx_pure hE rfl rfl 20 rfl rfl (.pointer (some ⟨b0, 0, none⟩)) (by kernel_rfl) fun a hE => ?_
      refine mx_pure hE rfl rfl 21 rfl rfl (.pointer (some ⟨b0, 0, none⟩)) (by kernel_rfl) fun a hE => ?_
      refine mx_pure hE rfl rfl 22 rfl rfl (.pointer (some ⟨b0, 1, none⟩)) (by kernel_rfl) fun a hE => ?_
      refine mx_run hE rfl rfl 23 rfl rfl (.int .i64 x0.at_) (fun w hx => ld_box hE (hW.ext hx) 0 rfl rfl rfl (by kernel_rfl)) fun a hE => ?_
      refine mx_pure hE rfl rfl 24 rfl rfl (.int .i64 (w64 ((x0.s_.length : Int) - x0.at_))) (by kernel_rfl) fun a hE => ?_
      refine mx_pure hE rfl rfl 25 rfl rfl (.int .i64 x1) (by kernel_rfl) fun a hE => ?_
      refine mx_pure hE rfl rfl 26 rfl rfl (.bool (decide ((w64 ((x0.s_.length : Int) - x0.at_)) < x1))) (by kernel_rfl) fun a hE => ?_
      refine mx_pure hE rfl rfl 27 rfl rfl (.bool (decide ((w64 ((x0.s_.length : Int) - x0.at_)) < x1))) (by kernel_rfl) fun a hE => ?_
      have hE := hE.re (t := 27) rfl (congrArg Value.bool (or_f (e := (decide ((w64 ((x0.s_.length : Int) - x0.at_)) < x1))) hb))
      exact mx_nil fun w hx => hE.sel ⟨rfl, rfl, rfl, trivial⟩
  refine mx_nil fun w hx => ?_
  have hS := hS.ext hx
  refine n_then ?_
  rcases Bool.eq_false_or_eq_true ((!x0.ok_) || (decide ((w64 ((x0.s_.length : Int) - x0.at_)) < x1))) with hb | hb
  · have hF := if_t hF hb
    refine c_true hE rfl hb ?_
    refine wp_seq ?_
    refine r_list ?_
    refine st_pure hE rfl 28 rfl rfl (.pointer (some ⟨b0, 0, none⟩)) (by kernel_rfl) fun a hE => ?_
    refine st_pure hE rfl 29 rfl rfl (.pointer (some ⟨b0, 0, none⟩)) (by kernel_rfl) fun a hE => ?_
    refine st_pure hE rfl 30 rfl rfl (.pointer (some ⟨b0, 2, none⟩)) (by kernel_rfl) fun a hE => ?_
    refine go_set (L' := [.box b0 77 (stat_reader.enc (stat_reader.mk x0.s_ x0.at_ false))]) hE hS rfl rfl 0 rfl rfl rfl rfl (by kernel_rfl) (by kernel_rfl) (by kernel_rfl) (stat_reader.enc (stat_reader.mk x0.s_ x0.at_ false)) (by kernel_rfl) rfl fun w hS => ?_
    refine st_nil ?_
    refine n_then ?_
    refine wp_seq ?_
    refine r_list ?_
    refine st_pure hE rfl 4 rfl rfl (.int .i64 0) (by kernel_rfl) fun a hE => ?_
    refine st_nil ?_
    refine n_then ?_
    refine wp_ret ?_
    obtain rfl := Option.some.inj hF
    refine r_then ?_
    exact out (rs := [.tmp 4]) (vs := [.int .i64 0]) rfl hE hS (.cons (.tmp rfl) .nil) ⟨rfl, hS.pick [0] rfl rfl⟩
  have hF := if_f hF hb
  refine c_false hE rfl hb ?_
  refine wp_skip ?_
  refine n_then ?_
  refine wp_seq ?_
  refine r_mix [] [(0, false), (1, false), (2, false), (3, false), (4, false), (5, false), (6, false), (7, false), (8, false), (9, false), (10, false), (11, false), (12, false), (13, false), (14, false), (15, false)] rfl (by kernel_rfl) ?_
  have hW := hS
  have hX := hS.now
  refine mx_pure hE rfl rfl 31 rfl rfl (.pointer (some ⟨b0, 0, none⟩)) (by kernel_rfl) fun a hE => ?_
  refine mx_pure hE rfl rfl 32 rfl rfl (.pointer (some ⟨b0, 0, none⟩)) (by kernel_rfl) fun a hE => ?_
  refine mx_pure hE rfl rfl 33 rfl rfl (.pointer (some ⟨b0, 0, none⟩)) (by kernel_rfl) fun a hE => ?_
  refine mx_run hE rfl rfl 34 rfl rfl (S x0.s_) (fun w hx => ld_box hE (hW.ext hx) 0 rfl rfl rfl (by kernel_rfl)) fun a hE => ?_
  refine mx_pure hE rfl rfl 35 rfl rfl (.pointer (some ⟨b0, 0, none⟩)) (by kernel_rfl) fun a hE => ?_
  refine mx_pure hE rfl rfl 36 rfl rfl (.pointer (some ⟨b0, 0, none⟩)) (by kernel_rfl) fun a hE => ?_
  refine mx_pure hE rfl rfl 37 rfl rfl (.pointer (some ⟨b0, 1, none⟩)) (by kernel_rfl) fun a hE => ?_
  refine mx_run hE rfl rfl 38 rfl rfl (.int .i64 x0.at_) (fun w hx => ld_box hE (hW.ext hx) 0 rfl rfl rfl (by kernel_rfl)) fun a hE => ?_
  refine mx_pure hE rfl rfl 39 rfl rfl (.pointer (some ⟨b0, 0, none⟩)) (by kernel_rfl) fun a hE => ?_
  refine mx_pure hE rfl rfl 40 rfl rfl (.pointer (some ⟨b0, 0, none⟩)) (by kernel_rfl) fun a hE => ?_
  refine mx_pure hE rfl rfl 41 rfl rfl (.pointer (some ⟨b0, 1, none⟩)) (by kernel_rfl) fun a hE => ?_
  refine mx_run hE rfl rfl 42 rfl rfl (.int .i64 x0.at_) (fun w hx => ld_box hE (hW.ext hx) 0 rfl rfl rfl (by kernel_rfl)) fun a hE => ?_
  refine mx_pure hE rfl rfl 43 rfl rfl (.int .i64 x1) (by kernel_rfl) fun a hE => ?_
  refine mx_pure hE rfl rfl 44 rfl rfl (.int .i64 (w64 (x0.at_ + x1))) (by kernel_rfl) fun a hE => ?_
  obtain ⟨y1, h1, hF⟩ := bind_some hF
  refine mx_run hE rfl rfl 45 rfl rfl (S y1) (fun w hx => run_str_sub (l := (some x0.at_)) (h := (some (w64 (x0.at_ + x1)))) rfl (by kernel_rfl) (hE.eval rfl) (bnd_some (hE.eval rfl)) (bnd_some (hE.eval rfl)) h1) fun a hE => ?_
  refine mx_pure hE rfl rfl 5 rfl rfl (S y1) (by kernel_rfl) fun a hE => ?_
  refine mx_nil fun w hx => ?_
  have hS := hS.ext hx
  refine n_then ?_
  refine wp_seq ?_
  refine r_list ?_
  refine st_pure hE rfl 46 rfl rfl (.pointer (some ⟨b0, 0, none⟩)) (by kernel_rfl) fun a hE => ?_
  refine st_pure hE rfl 47 rfl rfl (.pointer (some ⟨b0, 0, none⟩)) (by kernel_rfl) fun a hE => ?_
  refine st_pure hE rfl 48 rfl rfl (.pointer (some ⟨b0, 1, none⟩)) (by kernel_rfl) fun a hE => ?_
  refine st_run hE rfl 49 rfl rfl (.int .i64 x0.at_) (ld_box hE hS 0 rfl rfl rfl (by kernel_rfl)) fun a hE => ?_
  refine st_pure hE rfl 50 rfl rfl (.int .i64 x1) (by kernel_rfl) fun a hE => ?_
  refine st_pure hE rfl 51 rfl rfl (.int .i64 (w64 (x0.at_ + x1))) (by kernel_rfl) fun a hE => ?_
  refine st_pure hE rfl 52 rfl rfl (.pointer (some ⟨b0, 0, none⟩)) (by kernel_rfl) fun a hE => ?_
  refine st_pure hE rfl 53 rfl rfl (.pointer (some ⟨b0, 1, none⟩)) (by kernel_rfl) fun a hE => ?_
  refine go_set (L' := [.box b0 77 (stat_reader.enc (stat_reader.mk x0.s_ (w64 (x0.at_ + x1)) x0.ok_))]) hE hS rfl rfl 0 rfl rfl rfl rfl (by kernel_rfl) (by kernel_rfl) (by kernel_rfl) (stat_reader.enc (stat_reader.mk x0.s_ (w64 (x0.at_ + x1)) x0.ok_)) (by kernel_rfl) rfl fun w hS => ?_
  refine st_nil ?_
  refine n_then ?_
  refine wp_seq ?_
  refine wp_seq ?_
  refine r_list ?_
  refine st_pure hE rfl 54 rfl rfl (S y1) (by kernel_rfl) fun a hE => ?_
  obtain ⟨y2, h2, hF⟩ := bind_some hF
  refine go_call hE rfl 55 rfl rfl 75 _ (by kernel_rfl) (W_strings_Count y1 [255] _ h2 _ ) fun a v w hR hE => ?_
  obtain ⟨rfl, hq⟩ := hR
  have hS := hS.call hq rfl
  refine st_pure hE rfl 56 rfl rfl (.int .i64 x1) (by kernel_rfl) fun a hE => ?_
  refine st_pure hE rfl 57 rfl rfl (.bool (y2 == x1)) (by kernel_rfl) fun a hE => ?_
  refine st_nil ?_
  refine n_then ?_
  rcases Bool.eq_false_or_eq_true (y2 == x1) with hb | hb
  · have hF := if_t hF hb
    refine c_true hE rfl hb ?_
    refine wp_seq ?_
    refine r_list ?_
    refine st_pure hE rfl 4 rfl rfl (.int .i64 (-1)) (by kernel_rfl) fun a hE => ?_
    refine st_nil ?_
    refine n_then ?_
    refine wp_ret ?_
    obtain rfl := Option.some.inj hF
    refine r_then ?_
    exact out (rs := [.tmp 4]) (vs := [.int .i64 (-1)]) rfl hE hS (.cons (.tmp rfl) .nil) ⟨rfl, hS.pick [0] rfl rfl⟩
  have hF := if_f hF hb
  refine c_false hE rfl hb ?_
  refine wp_skip ?_
  refine n_then ?_
  refine wp_seq ?_
  refine r_list ?_
  refine st_pure hE rfl 59 rfl rfl (S y1) (by kernel_rfl) fun a hE => ?_
  refine st_pure hE rfl 60 rfl rfl (.int .i64 x1) (by kernel_rfl) fun a hE => ?_
  obtain ⟨y3, h3, hF⟩ := bind_some hF
  refine go_call hE rfl 61 rfl rfl 59 _ (by kernel_rfl) (W_octet_Get y1 0 x1 _ h3 _ ) fun a v w hR hE => ?_
  obtain ⟨rfl, hq⟩ := hR
  have hS := hS.call hq rfl
  refine st_pure hE rfl 58 rfl rfl (.tuple #[.int .i64 y3.1, .int .i64 y3.2.1, .int .i64 y3.2.2]) (by kernel_rfl) fun a hE => ?_
  refine st_pure hE rfl 62 rfl rfl (.int .i64 y3.1) (by kernel_rfl) fun a hE => ?_
  refine st_pure hE rfl 63 rfl rfl (.int .i64 y3.2.1) (by kernel_rfl) fun a hE => ?_
  refine st_pure hE rfl 64 rfl rfl (.int .i64 y3.2.2) (by kernel_rfl) fun a hE => ?_
  refine st_pure hE rfl 6 rfl rfl (.int .i64 y3.1) (by kernel_rfl) fun a hE => ?_
  refine st_pure hE rfl 7 rfl rfl (.int .i64 y3.2.1) (by kernel_rfl) fun a hE => ?_
  refine st_pure hE rfl 8 rfl rfl (.int .i64 y3.2.2) (by kernel_rfl) fun a hE => ?_
  refine st_nil ?_
  refine n_then ?_
  refine wp_seq ?_
  refine wp_seq ?_
  refine r_list ?_
  refine st_pure hE rfl 65 rfl rfl (.int .i64 y3.2.2) (by kernel_rfl) fun a hE => ?_
  refine st_pure hE rfl 66 rfl rfl (.bool (y3.2.2 != 0)) (by kernel_rfl) fun a hE => ?_
  refine st_nil ?_
  refine n_then ?_
  rcases Bool.eq_false_or_eq_true (y3.2.2 != 0) with hb | hb
  · have hF := if_t hF hb
    refine c_true hE rfl hb ?_
    refine wp_seq ?_
    refine r_list ?_
    refine st_pure hE rfl 4 rfl rfl (.int .i64 (-2)) (by kernel_rfl) fun a hE => ?_
    refine st_nil ?_
    refine n_then ?_
    refine wp_ret ?_
    obtain rfl := Option.some.inj hF
    refine r_then ?_
    exact out (rs := [.tmp 4]) (vs := [.int .i64 (-2)]) rfl hE hS (.cons (.tmp rfl) .nil) ⟨rfl, hS.pick [0] rfl rfl⟩
  have hF := if_f hF hb
  refine c_false hE rfl hb ?_
  refine wp_skip ?_
  refine n_then ?_
  refine wp_seq ?_
  refine r_list ?_
  refine st_pure hE rfl 67 rfl rfl (.int .i64 y3.1) (by kernel_rfl) fun a hE => ?_
  refine st_pure hE rfl 4 rfl rfl (.int .i64 y3.1) (by kernel_rfl) fun a hE => ?_
  refine st_nil ?_
  refine n_then ?_
  refine wp_ret ?_
  obtain rfl := Option.some.inj hF
  exact out (rs := [.tmp 4]) (vs := [.int .i64 y3.1]) rfl hE hS (.cons (.tmp rfl) .nil) ⟨rfl, hS.pick [0] rfl rfl⟩
/-- filespace/octet.GetText -/
theorem W_octet_GetText (x0 : Str) (x1 : Int) (r : Str × Int × Int) (hF : octet_GetText x0 x1 = some r) (w0 : World)  : Ret Try.prog 76 #[S x0, .int .i64 x1] w0 fun v w => v = .tuple #[S r.1, .int .i64 r.2.1, .int .i64 r.2.2] ∧ Sep [] w0 w [] := by
  refine enter Try.func76 rfl rfl rfl fun a hE => ?_
  have hS := Sep.start [] w0
  unfold octet_GetText at hF
  refine wp_seq ?_
  refine r_list ?_
  refine st_pure hE rfl 4 rfl rfl (S []) (by kernel_rfl) fun a hE => ?_
  refine st_pure hE rfl 5 rfl rfl (.int .i64 0) (by kernel_rfl) fun a hE => ?_
  refine st_pure hE rfl 6 rfl rfl (.int .i64 0) (by kernel_rfl) fun a hE => ?_
  refine st_nil ?_
  refine n_then ?_
  refine wp_seq ?_
  refine r_list ?_
  refine st_pure hE rfl 11 rfl rfl (S x0) (by kernel_rfl) fun a hE => ?_
  refine st_pure hE rfl 12 rfl rfl (.int .i64 x1) (by kernel_rfl) fun a hE => ?_
  obtain ⟨y1, h1, hF⟩ := bind_some hF
  refine go_call hE rfl 13 rfl rfl 59 _ (by kernel_rfl) (W_octet_Get x0 x1 2 _ h1 _ ) fun a v w hR hE => ?_
  obtain ⟨rfl, hq⟩ := hR
  have hS := hS.call hq rfl
  refine st_pure hE rfl 10 rfl rfl (.tuple #[.int .i64 y1.1, .int .i64 y1.2.1, .int .i64 y1.2.2]) (by kernel_rfl) fun a hE => ?_
  refine st_pure hE rfl 14 rfl rfl (.int .i64 y1.1) (by kernel_rfl) fun a hE => ?_
  refine st_pure hE rfl 15 rfl rfl (.int .i64 y1.2.1) (by kernel_rfl) fun a hE => ?_
  refine st_pure hE rfl 16 rfl rfl (.int .i64 y1.2.2) (by kernel_rfl) fun a hE => ?_
  refine st_pure hE rfl 7 rfl rfl (.int .i64 y1.1) (by kernel_rfl) fun a hE => ?_
  refine st_pure hE rfl 8 rfl rfl (.int .i64 y1.2.1) (by kernel_rfl) fun a hE => ?_
  refine st_pure hE rfl 9 rfl rfl (.int .i64 y1.2.2) (by kernel_rfl) fun a hE => ?_
  refine st_nil ?_
  refine n_then ?_
  refine wp_seq ?_
  refine wp_block ?_
  refine wp_seq ?_
  refine r_list ?_
  refine st_pure hE rfl 18 rfl rfl (.int .i64 y1.2.2) (by kernel_rfl) fun a hE => ?_
  refine st_pure hE rfl 19 rfl rfl (.bool (y1.2.2 != 0)) (by kernel_rfl) fun a hE => ?_
  refine st_pure hE rfl 17 rfl rfl (.bool (y1.2.2 != 0)) (by kernel_rfl) fun a hE => ?_
  refine st_nil ?_
  refine n_then ?_
  rcases Bool.eq_false_or_eq_true (y1.2.2 != 0) with hb | hb
  · have hF := if_t hF hb
    refine c_true hE rfl hb ?_
    refine wp_seq ?_
    refine r_list ?_
    refine st_pure hE rfl 20 rfl rfl (.int .i64 y1.2.2) (by kernel_rfl) fun a hE => ?_
    refine st_pure hE rfl 4 rfl rfl (S []) (by kernel_rfl) fun a hE => ?_
    refine st_pure hE rfl 5 rfl rfl (.int .i64 0) (by kernel_rfl) fun a hE => ?_
    refine st_pure hE rfl 6 rfl rfl (.int .i64 y1.2.2) (by kernel_rfl) fun a hE => ?_
    refine st_nil ?_
    refine n_then ?_
    refine wp_ret ?_
    obtain rfl := Option.some.inj hF
    refine r_in (r_then ?_)
    exact out (rs := [.tmp 4, .tmp 5, .tmp 6]) (vs := [S [], .int .i64 0, .int .i64 y1.2.2]) rfl hE hS (.cons (.tmp rfl) (.cons (.tmp rfl) (.cons (.tmp rfl) .nil))) ⟨rfl, hS.pick [] rfl rfl⟩
  have hF := if_f hF hb
  refine c_false hE rfl hb ?_
  refine wp_seq ?_
  refine r_list ?_
  refine st_pure hE rfl 22 rfl rfl (S x0) (by kernel_rfl) fun a hE => ?_
  refine st_pure hE rfl 23 rfl rfl (.int .i64 (x0.length : Int)) (by kernel_rfl) fun a hE => ?_
  refine st_pure hE rfl 24 rfl rfl (.int .i64 y1.2.1) (by kernel_rfl) fun a hE => ?_
  refine st_pure hE rfl 25 rfl rfl (.int .i64 (w64 ((x0.length : Int) - y1.2.1))) (by kernel_rfl) fun a hE => ?_
  refine st_pure hE rfl 26 rfl rfl (.int .i64 y1.1) (by kernel_rfl) fun a hE => ?_
  refine st_pure hE rfl 27 rfl rfl (.bool (decide ((w64 ((x0.length : Int) - y1.2.1)) < y1.1))) (by kernel_rfl) fun a hE => ?_
  refine st_pure hE rfl 21 rfl rfl (.bool (decide ((w64 ((x0.length : Int) - y1.2.1)) < y1.1))) (by kernel_rfl) fun a hE => ?_
  refine st_nil ?_
  refine n_then ?_
  rcases Bool.eq_false_or_eq_true (decide ((w64 ((x0.length : Int) - y1.2.1)) < y1.1)) with hb | hb
  · have hF := if_t hF hb
    refine c_true hE rfl hb ?_
    refine wp_seq ?_
    refine r_list ?_
    refine st_pure hE rfl 4 rfl rfl (S []) (by kernel_rfl) fun a hE => ?_
    refine st_pure hE rfl 5 rfl rfl (.int .i64 0) (by kernel_rfl) fun a hE => ?_
    refine st_pure hE rfl 6 rfl rfl (.int .i64 3) (by kernel_rfl) fun a hE => ?_
    refine st_nil ?_
    refine n_then ?_
    refine wp_ret ?_
    obtain rfl := Option.some.inj hF
    refine r_in (r_then ?_)
    exact out (rs := [.tmp 4, .tmp 5, .tmp 6]) (vs := [S [], .int .i64 0, .int .i64 3]) rfl hE hS (.cons (.tmp rfl) (.cons (.tmp rfl) (.cons (.tmp rfl) .nil))) ⟨rfl, hS.pick [] rfl rfl⟩
  have hF := if_f hF hb
  refine c_false hE rfl hb ?_
  refine wp_skip ?_
  refine n_in ?_
  refine n_then ?_
  refine wp_seq ?_
  refine r_list ?_
  refine st_pure hE rfl 28 rfl rfl (S x0) (by kernel_rfl) fun a hE => ?_
  refine st_pure hE rfl 29 rfl rfl (.int .i64 y1.2.1) (by kernel_rfl) fun a hE => ?_
  refine st_pure hE rfl 30 rfl rfl (.int .i64 y1.2.1) (by kernel_rfl) fun a hE => ?_
  refine st_pure hE rfl 31 rfl rfl (.int .i64 y1.1) (by kernel_rfl) fun a hE => ?_
  refine st_pure hE rfl 32 rfl rfl (.int .i64 (w64 (y1.2.1 + y1.1))) (by kernel_rfl) fun a hE => ?_
  obtain ⟨y2, h2, hF⟩ := bind_some hF
  refine st_run hE rfl 33 rfl rfl (S y2) (run_str_sub (l := (some y1.2.1)) (h := (some (w64 (y1.2.1 + y1.1)))) rfl (by kernel_rfl) (hE.eval rfl) (bnd_some (hE.eval rfl)) (bnd_some (hE.eval rfl)) h2) fun a hE => ?_
  refine st_pure hE rfl 34 rfl rfl (.int .i64 y1.2.1) (by kernel_rfl) fun a hE => ?_
  refine st_pure hE rfl 35 rfl rfl (.int .i64 y1.1) (by kernel_rfl) fun a hE => ?_
  refine st_pure hE rfl 36 rfl rfl (.int .i64 (w64 (y1.2.1 + y1.1))) (by kernel_rfl) fun a hE => ?_
  refine st_pure hE rfl 4 rfl rfl (S y2) (by kernel_rfl) fun a hE => ?_
  refine st_pure hE rfl 5 rfl rfl (.int .i64 (w64 (y1.2.1 + y1.1))) (by kernel_rfl) fun a hE => ?_
  refine st_pure hE rfl 6 rfl rfl (.int .i64 0) (by kernel_rfl) fun a hE => ?_
  refine st_nil ?_
  refine n_then ?_
  refine wp_ret ?_
  obtain rfl := Option.some.inj hF
  exact out (rs := [.tmp 4, .tmp 5, .tmp 6]) (vs := [S y2, .int .i64 (w64 (y1.2.1 + y1.1)), .int .i64 0]) rfl hE hS (.cons (.tmp rfl) (.cons (.tmp rfl) (.cons (.tmp rfl) .nil))) ⟨rfl, hS.pick [] rfl rfl⟩
/-- (*filespace/stat.reader).text -/
theorem W_stat_reader_text (x0 : stat_reader) (r : Str × stat_reader) (hF : stat_reader_text x0 = some r) (w0 : World) {b0 : Nat} (hp : w0.heap[b0]? = some (.cells (stat_reader.enc x0).toArray 77 (0, 0))) : Ret Try.prog 68 #[.pointer (some ⟨b0, 0, none⟩)] w0 fun v w => v = S r.1 ∧ Sep [b0] w0 w [.box b0 77 (stat_reader.enc r.2)] := by
  refine enter Try.func68 rfl rfl rfl fun a hE => ?_
  have hS := Sep.borrow hp
  unfold stat_reader_text at hF
  refine wp_seq ?_
  refine r_list ?_
  refine st_pure hE rfl 2 rfl rfl (S []) (by kernel_rfl) fun a hE => ?_
  refine st_nil ?_
  refine n_then ?_
  refine wp_seq ?_
  refine wp_seq ?_
  refine r_list ?_
  refine st_pure hE rfl 6 rfl rfl (.pointer (some ⟨b0, 0, none⟩)) (by kernel_rfl) fun a hE => ?_
  refine st_pure hE rfl 7 rfl rfl (.pointer (some ⟨b0, 0, none⟩)) (by kernel_rfl) fun a hE => ?_
  refine st_pure hE rfl 8 rfl rfl (.pointer (some ⟨b0, 2, none⟩)) (by kernel_rfl) fun a hE => ?_
  refine st_run hE rfl 9 rfl rfl (.bool x0.ok_) (ld_box hE hS 0 rfl rfl rfl (by kernel_rfl)) fun a hE => ?_
  refine st_pure hE rfl 10 rfl rfl (.bool (!x0.ok_)) (by kernel_rfl) fun a hE => ?_
  refine st_nil ?_
  refine n_then ?_
  rcases Bool.eq_false_or_eq_true (!x0.ok_) with hb | hb
  · have hF := if_t hF hb
    refine c_true hE rfl hb ?_
    refine wp_seq ?_
    refine r_list ?_
    refine st_pure hE rfl 2 rfl rfl (S []) (by kernel_rfl) fun a hE => ?_
    refine st_nil ?_
    refine n_then ?_
    refine wp_ret ?_
    obtain rfl := Option.some.inj hF
    refine r_then ?_
    exact out (rs := [.tmp 2]) (vs := [S []]) rfl hE hS (.cons (.tmp rfl) .nil) ⟨rfl, hS.pick [0] rfl rfl⟩
  have hF := if_f hF hb
  refine c_false hE rfl hb ?_
  refine wp_skip ?_
  refine n_then ?_
  refine wp_seq ?_
  refine r_mix [] [(0, false), (1, false), (2, false), (3, false), (4, false), (5, false), (6, false), (7, false), (8, false), (9, false), (10, false), (11, false), (12, false), (13, false), (14, false), (15, false)] rfl (by kernel_rfl) ?_
  have hW := hS
  have hX := hS.now
  refine mx_pure hE rfl rfl 12 rfl rfl (.pointer (some ⟨b0, 0, none⟩)) (by kernel_rfl) fun a hE => ?_
  refine mx_pure hE rfl rfl 13 rfl rfl (.pointer (some ⟨b0, 0, none⟩)) (by kernel_rfl) fun a hE => ?_
  refine mx_pure hE rfl rfl 14 rfl rfl (.pointer (some ⟨b0, 0, none⟩)) (by kernel_rfl) fun a hE => ?_
  refine mx_run hE rfl rfl 15 rfl rfl (S x0.s_) (fun w hx => ld_box hE (hW.ext hx) 0 rfl rfl rfl (by kernel_rfl)) fun a hE => ?_
  refine mx_pure hE rfl rfl 16 rfl rfl (.pointer (some ⟨b0, 0, none⟩)) (by kernel_rfl) fun a hE => ?_
  refine mx_pure hE rfl rfl 17 rfl rfl (.pointer (some ⟨b0, 0, none⟩)) (by kernel_rfl) fun a hE => ?_
  refine mx_pure hE rfl rfl 18 rfl rfl (.pointer (some ⟨b0, 1, none⟩)) (by kernel_rfl) fun a hE => ?_
  refine mx_run hE rfl rfl 19 rfl rfl (.int .i64 x0.at_) (fun w hx => ld_box hE (hW.ext hx) 0 rfl rfl rfl (by kernel_rfl)) fun a hE => ?_
  obtain ⟨y1, h1, hF⟩ := bind_some hF
  refine mx_call hE rfl rfl 20 rfl rfl 76 _ (by kernel_rfl) (.tuple #[S y1.1, .int .i64 y1.2.1, .int .i64 y1.2.2]) (fun w hx => (W_octet_GetText x0.s_ x0.at_ _ h1 _ ).mono fun u w ⟨hu, hq⟩ => ⟨hu, Ext.of_sep hq⟩) fun a hE => ?_
  refine mx_pure hE rfl rfl 11 rfl rfl (.tuple #[S y1.1, .int .i64 y1.2.1, .int .i64 y1.2.2]) (by kernel_rfl) fun a hE => ?_
  refine mx_pure hE rfl rfl 21 rfl rfl (S y1.1) (by kernel_rfl) fun a hE => ?_
  refine mx_pure hE rfl rfl 22 rfl rfl (.int .i64 y1.2.1) (by kernel_rfl) fun a hE => ?_
  refine mx_pure hE rfl rfl 23 rfl rfl (.int .i64 y1.2.2) (by kernel_rfl) fun a hE => ?_
  refine mx_pure hE rfl rfl 3 rfl rfl (S y1.1) (by kernel_rfl) fun a hE => ?_
  refine mx_pure hE rfl rfl 4 rfl rfl (.int .i64 y1.2.1) (by kernel_rfl) fun a hE => ?_
  refine mx_pure hE rfl rfl 5 rfl rfl (.int .i64 y1.2.2) (by kernel_rfl) fun a hE => ?_
  refine mx_nil fun w hx => ?_
  have hS := hS.ext hx
  refine n_then ?_
  refine wp_seq ?_
  refine wp_seq ?_
  refine r_list ?_
  refine st_pure hE rfl 24 rfl rfl (.int .i64 y1.2.2) (by kernel_rfl) fun a hE => ?_
  refine st_pure hE rfl 25 rfl rfl (.bool (y1.2.2 != 0)) (by kernel_rfl) fun a hE => ?_
  refine st_nil ?_
  refine n_then ?_
  rcases Bool.eq_false_or_eq_true (y1.2.2 != 0) with hb | hb
  · have hF := if_t hF hb
    refine c_true hE rfl hb ?_
    refine wp_seq ?_
    refine r_list ?_
    refine st_pure hE rfl 26 rfl rfl (.pointer (some ⟨b0, 0, none⟩)) (by kernel_rfl) fun a hE => ?_
    refine st_pure hE rfl 27 rfl rfl (.pointer (some ⟨b0, 0, none⟩)) (by kernel_rfl) fun a hE => ?_
    refine st_pure hE rfl 28 rfl rfl (.pointer (some ⟨b0, 2, none⟩)) (by kernel_rfl) fun a hE => ?_
    refine go_set (L' := [.box b0 77 (stat_reader.enc (stat_reader.mk x0.s_ x0.at_ false))]) hE hS rfl rfl 0 rfl rfl rfl rfl (by kernel_rfl) (by kernel_rfl) (by kernel_rfl) (stat_reader.enc (stat_reader.mk x0.s_ x0.at_ false)) (by kernel_rfl) rfl fun w hS => ?_
    refine st_nil ?_
    refine n_then ?_
    refine wp_seq ?_
    refine r_list ?_
    refine st_pure hE rfl 2 rfl rfl (S []) (by kernel_rfl) fun a hE => ?_
    refine st_nil ?_
    refine n_then ?_
    refine wp_ret ?_
    obtain rfl := Option.some.inj hF
    refine r_then ?_
    exact out (rs := [.tmp 2]) (vs := [S []]) rfl hE hS (.cons (.tmp rfl) .nil) ⟨rfl, hS.pick [0] rfl rfl⟩
  have hF := if_f hF hb
  refine c_false hE rfl hb ?_
  refine wp_skip ?_
  refine n_then ?_
  refine wp_seq ?_
  refine r_list ?_
  refine st_pure hE rfl 29 rfl rfl (.pointer (some ⟨b0, 0, none⟩)) (by kernel_rfl) fun a hE => ?_
  refine st_pure hE rfl 30 rfl rfl (.int .i64 y1.2.1) (by kernel_rfl) fun a hE => ?_
  refine st_pure hE rfl 31 rfl rfl (.pointer (some ⟨b0, 0, none⟩)) (by kernel_rfl) fun a hE => ?_
  refine st_pure hE rfl 32 rfl rfl (.pointer (some ⟨b0, 1, none⟩)) (by kernel_rfl) fun a hE => ?_
  refine go_set (L' := [.box b0 77 (stat_reader.enc (stat_reader.mk x0.s_ y1.2.1 x0.ok_))]) hE hS rfl rfl 0 rfl rfl rfl rfl (by kernel_rfl) (by kernel_rfl) (by kernel_rfl) (stat_reader.enc (stat_reader.mk x0.s_ y1.2.1 x0.ok_)) (by kernel_rfl) rfl fun w hS => ?_
  refine st_nil ?_
  refine n_then ?_
  refine wp_seq ?_
  refine r_list ?_
  refine st_pure hE rfl 33 rfl rfl (S y1.1) (by kernel_rfl) fun a hE => ?_
  refine st_pure hE rfl 2 rfl rfl (S y1.1) (by kernel_rfl) fun a hE => ?_
  refine st_nil ?_
  refine n_then ?_
  refine wp_ret ?_
  obtain rfl := Option.some.inj hF
  exact out (rs := [.tmp 2]) (vs := [S y1.1]) rfl hE hS (.cons (.tmp rfl) .nil) ⟨rfl, hS.pick [0] rfl rfl⟩
/-- (*filespace/stat.reader).read -/
theorem W_stat_reader_read (x0 : stat_reader) (r : api_Dir × stat_reader) (hF : stat_reader_read x0 = some r) (w0 : World) {b0 : Nat} (hp : w0.heap[b0]? = some (.cells (stat_reader.enc x0).toArray 77 (0, 0))) : Ret Try.prog 60 #[.pointer (some ⟨b0, 0, none⟩)] w0 fun v w => v = .agg (api_Dir.enc r.1).toArray ∧ Sep [b0] w0 w [.box b0 77 (stat_reader.enc r.2)] := by
  refine enter Try.func60 rfl rfl rfl fun a hE => ?_
  have hS := Sep.borrow hp
  unfold stat_reader_read at hF
  refine wp_seq ?_
  refine r_list ?_
  refine go_box hE hS rfl 2 rfl rfl 27 (api_Dir.enc (api_Dir.mk 0 0 (api_Qid.mk 0 0 0) 0 0 0 0 [] [] [] [])) (fun _ => by kernel_rfl) fun a w b1 hx hE hS => ?_
  refine st_nil ?_
  refine n_then ?_
  refine wp_seq ?_
  refine r_list ?_
  refine st_pure hE rfl 4 rfl rfl (.pointer (some ⟨b0, 0, none⟩)) (by kernel_rfl) fun a hE => ?_
  obtain ⟨y1, h1, hF⟩ := bind_some hF
  refine go_call hE rfl 5 rfl rfl 67 _ (by kernel_rfl) (W_stat_reader_number x0 2 _ h1 _ (hS.box_at (i := 1) rfl)) fun a v w hR hE => ?_
  obtain ⟨rfl, hq⟩ := hR
  have hS := hS.lend (i := 1) rfl hq rfl
  refine st_pure hE rfl 6 rfl rfl (.pointer (some ⟨b0, 0, none⟩)) (by kernel_rfl) fun a hE => ?_
  obtain ⟨y2, h2, hF⟩ := bind_some hF
  refine go_call hE rfl 7 rfl rfl 67 _ (by kernel_rfl) (W_stat_reader_number y1.2 4 _ h2 _ (hS.box_at (i := 1) rfl)) fun a v w hR hE => ?_
  obtain ⟨rfl, hq⟩ := hR
  have hS := hS.lend (i := 1) rfl hq rfl
  refine st_pure hE rfl 8 rfl rfl (.agg (api_Dir.enc (api_Dir.mk y1.1 y2.1 (api_Qid.mk 0 0 0) 0 0 0 0 [] [] [] [])).toArray) (by kernel_rfl) fun a hE => ?_
  refine go_box hE hS rfl 3 rfl rfl 27 (api_Dir.enc (api_Dir.mk 0 0 (api_Qid.mk 0 0 0) 0 0 0 0 [] [] [] [])) (fun _ => by kernel_rfl) fun a w b2 hx hE hS => ?_
  refine go_set (L' := [.box b2 27 (api_Dir.enc (api_Dir.mk y1.1 y2.1 (api_Qid.mk 0 0 0) 0 0 0 0 [] [] [] [])), .box b1 27 (api_Dir.enc (api_Dir.mk 0 0 (api_Qid.mk 0 0 0) 0 0 0 0 [] [] [] [])), .box b0 77 (stat_reader.enc y2.2)]) hE hS rfl rfl 0 rfl rfl rfl rfl (by kernel_rfl) (by kernel_rfl) (by kernel_rfl) (api_Dir.enc (api_Dir.mk y1.1 y2.1 (api_Qid.mk 0 0 0) 0 0 0 0 [] [] [] [])) (by kernel_rfl) rfl fun w hS => ?_
  refine st_nil ?_
  refine n_then ?_
  refine wp_seq ?_
  refine r_list ?_
  refine st_pure hE rfl 9 rfl rfl (.pointer (some ⟨b0, 0, none⟩)) (by kernel_rfl) fun a hE => ?_
  obtain ⟨y3, h3, hF⟩ := bind_some hF
  refine go_call hE rfl 10 rfl rfl 67 _ (by kernel_rfl) (W_stat_reader_number y2.2 1 _ h3 _ (hS.box_at (i := 2) rfl)) fun a v w hR hE => ?_
  obtain ⟨rfl, hq⟩ := hR
  have hS := hS.lend (i := 2) rfl hq rfl
  refine st_pure hE rfl 11 rfl rfl (.pointer (some ⟨b0, 0, none⟩)) (by kernel_rfl) fun a hE => ?_
  obtain ⟨y4, h4, hF⟩ := bind_some hF
  refine go_call hE rfl 12 rfl rfl 67 _ (by kernel_rfl) (W_stat_reader_number y3.2 4 _ h4 _ (hS.box_at (i := 2) rfl)) fun a v w hR hE => ?_
  obtain ⟨rfl, hq⟩ := hR
  have hS := hS.lend (i := 2) rfl hq rfl
  refine st_pure hE rfl 13 rfl rfl (.pointer (some ⟨b0, 0, none⟩)) (by kernel_rfl) fun a hE => ?_
  obtain ⟨y5, h5, hF⟩ := bind_some hF
  refine go_call hE rfl 14 rfl rfl 67 _ (by kernel_rfl) (W_stat_reader_number y4.2 8 _ h5 _ (hS.box_at (i := 2) rfl)) fun a v w hR hE => ?_
  obtain ⟨rfl, hq⟩ := hR
  have hS := hS.lend (i := 2) rfl hq rfl
  refine st_pure hE rfl 15 rfl rfl (.pointer (some ⟨b2, 2, none⟩)) (by kernel_rfl) fun a hE => ?_
  refine st_pure hE rfl 16 rfl rfl (.pointer (some ⟨b2, 2, none⟩)) (by kernel_rfl) fun a hE => ?_
  refine go_set (L' := [.box b2 27 (api_Dir.enc (api_Dir.mk y1.1 y2.1 (api_Qid.mk y3.1 0 0) 0 0 0 0 [] [] [] [])), .box b1 27 (api_Dir.enc (api_Dir.mk 0 0 (api_Qid.mk 0 0 0) 0 0 0 0 [] [] [] [])), .box b0 77 (stat_reader.enc y5.2)]) hE hS rfl rfl 0 rfl rfl rfl rfl (by kernel_rfl) (by kernel_rfl) (by kernel_rfl) (api_Dir.enc (api_Dir.mk y1.1 y2.1 (api_Qid.mk y3.1 0 0) 0 0 0 0 [] [] [] [])) (by kernel_rfl) rfl fun w hS => ?_
  refine st_pure hE rfl 17 rfl rfl (.pointer (some ⟨b2, 2, none⟩)) (by kernel_rfl) fun a hE => ?_
  refine st_pure hE rfl 18 rfl rfl (.pointer (some ⟨b2, 3, none⟩)) (by kernel_rfl) fun a hE => ?_
  refine go_set (L' := [.box b2 27 (api_Dir.enc (api_Dir.mk y1.1 y2.1 (api_Qid.mk y3.1 y4.1 0) 0 0 0 0 [] [] [] [])), .box b1 27 (api_Dir.enc (api_Dir.mk 0 0 (api_Qid.mk 0 0 0) 0 0 0 0 [] [] [] [])), .box b0 77 (stat_reader.enc y5.2)]) hE hS rfl rfl 0 rfl rfl rfl rfl (by kernel_rfl) (by kernel_rfl) (by kernel_rfl) (api_Dir.enc (api_Dir.mk y1.1 y2.1 (api_Qid.mk y3.1 y4.1 0) 0 0 0 0 [] [] [] [])) (by kernel_rfl) rfl fun w hS => ?_
  refine st_pure hE rfl 19 rfl rfl (.pointer (some ⟨b2, 2, none⟩)) (by kernel_rfl) fun a hE => ?_
  refine st_pure hE rfl 20 rfl rfl (.pointer (some ⟨b2, 4, none⟩)) (by kernel_rfl) fun a hE => ?_
  refine go_set (L' := [.box b2 27 (api_Dir.enc (api_Dir.mk y1.1 y2.1 (api_Qid.mk y3.1 y4.1 y5.1) 0 0 0 0 [] [] [] [])), .box b1 27 (api_Dir.enc (api_Dir.mk 0 0 (api_Qid.mk 0 0 0) 0 0 0 0 [] [] [] [])), .box b0 77 (stat_reader.enc y5.2)]) hE hS rfl rfl 0 rfl rfl rfl rfl (by kernel_rfl) (by kernel_rfl) (by kernel_rfl) (api_Dir.enc (api_Dir.mk y1.1 y2.1 (api_Qid.mk y3.1 y4.1 y5.1) 0 0 0 0 [] [] [] [])) (by kernel_rfl) rfl fun w hS => ?_
  refine st_nil ?_
  refine n_then ?_
  refine wp_seq ?_
  refine r_list ?_
  refine st_pure hE rfl 21 rfl rfl (.pointer (some ⟨b0, 0, none⟩)) (by kernel_rfl) fun a hE => ?_
  obtain ⟨y6, h6, hF⟩ := bind_some hF
  refine go_call hE rfl 22 rfl rfl 67 _ (by kernel_rfl) (W_stat_reader_number y5.2 4 _ h6 _ (hS.box_at (i := 2) rfl)) fun a v w hR hE => ?_
  obtain ⟨rfl, hq⟩ := hR
  have hS := hS.lend (i := 2) rfl hq rfl
  refine st_pure hE rfl 23 rfl rfl (.pointer (some ⟨b0, 0, none⟩)) (by kernel_rfl) fun a hE => ?_
  obtain ⟨y7, h7, hF⟩ := bind_some hF
  refine go_call hE rfl 24 rfl rfl 67 _ (by kernel_rfl) (W_stat_reader_number y6.2 8 _ h7 _ (hS.box_at (i := 2) rfl)) fun a v w hR hE => ?_
  obtain ⟨rfl, hq⟩ := hR
  have hS := hS.lend (i := 2) rfl hq rfl
  refine st_pure hE rfl 25 rfl rfl (.pointer (some ⟨b0, 0, none⟩)) (by kernel_rfl) fun a hE => ?_
  obtain ⟨y8, h8, hF⟩ := bind_some hF
  refine go_call hE rfl 26 rfl rfl 67 _ (by kernel_rfl) (W_stat_reader_number y7.2 8 _ h8 _ (hS.box_at (i := 2) rfl)) fun a v w hR hE => ?_
  obtain ⟨rfl, hq⟩ := hR
  have hS := hS.lend (i := 2) rfl hq rfl
  refine st_pure hE rfl 27 rfl rfl (.pointer (some ⟨b0, 0, none⟩)) (by kernel_rfl) fun a hE => ?_
  obtain ⟨y9, h9, hF⟩ := bind_some hF
  refine go_call hE rfl 28 rfl rfl 67 _ (by kernel_rfl) (W_stat_reader_number y8.2 8 _ h9 _ (hS.box_at (i := 2) rfl)) fun a v w hR hE => ?_
  obtain ⟨rfl, hq⟩ := hR
  have hS := hS.lend (i := 2) rfl hq rfl
  refine st_pure hE rfl 29 rfl rfl (.pointer (some ⟨b2, 5, none⟩)) (by kernel_rfl) fun a hE => ?_
  refine go_set (L' := [.box b2 27 (api_Dir.enc (api_Dir.mk y1.1 y2.1 (api_Qid.mk y3.1 y4.1 y5.1) y6.1 0 0 0 [] [] [] [])), .box b1 27 (api_Dir.enc (api_Dir.mk 0 0 (api_Qid.mk 0 0 0) 0 0 0 0 [] [] [] [])), .box b0 77 (stat_reader.enc y9.2)]) hE hS rfl rfl 0 rfl rfl rfl rfl (by kernel_rfl) (by kernel_rfl) (by kernel_rfl) (api_Dir.enc (api_Dir.mk y1.1 y2.1 (api_Qid.mk y3.1 y4.1 y5.1) y6.1 0 0 0 [] [] [] [])) (by kernel_rfl) rfl fun w hS => ?_
  refine st_pure hE rfl 30 rfl rfl (.pointer (some ⟨b2, 6, none⟩)) (by kernel_rfl) fun a hE => ?_
  refine go_set (L' := [.box b2 27 (api_Dir.enc (api_Dir.mk y1.1 y2.1 (api_Qid.mk y3.1 y4.1 y5.1) y6.1 y7.1 0 0 [] [] [] [])), .box b1 27 (api_Dir.enc (api_Dir.mk 0 0 (api_Qid.mk 0 0 0) 0 0 0 0 [] [] [] [])), .box b0 77 (stat_reader.enc y9.2)]) hE hS rfl rfl 0 rfl rfl rfl rfl (by kernel_rfl) (by kernel_rfl) (by kernel_rfl) (api_Dir.enc (api_Dir.mk y1.1 y2.1 (api_Qid.mk y3.1 y4.1 y5.1) y6.1 y7.1 0 0 [] [] [] [])) (by kernel_rfl) rfl fun w hS => ?_
  refine st_pure hE rfl 31 rfl rfl (.pointer (some ⟨b2, 7, none⟩)) (by kernel_rfl) fun a hE => ?_
  refine go_set (L' := [.box b2 27 (api_Dir.enc (api_Dir.mk y1.1 y2.1 (api_Qid.mk y3.1 y4.1 y5.1) y6.1 y7.1 y8.1 0 [] [] [] [])), .box b1 27 (api_Dir.enc (api_Dir.mk 0 0 (api_Qid.mk 0 0 0) 0 0 0 0 [] [] [] [])), .box b0 77 (stat_reader.enc y9.2)]) hE hS rfl rfl 0 rfl rfl rfl rfl (by kernel_rfl) (by kernel_rfl) (by kernel_rfl) (api_Dir.enc (api_Dir.mk y1.1 y2.1 (api_Qid.mk y3.1 y4.1 y5.1) y6.1 y7.1 y8.1 0 [] [] [] [])) (by kernel_rfl) rfl fun w hS => ?_
  refine st_pure hE rfl 32 rfl rfl (.pointer (some ⟨b2, 8, none⟩)) (by kernel_rfl) fun a hE => ?_
  refine go_set (L' := [.box b2 27 (api_Dir.enc (api_Dir.mk y1.1 y2.1 (api_Qid.mk y3.1 y4.1 y5.1) y6.1 y7.1 y8.1 y9.1 [] [] [] [])), .box b1 27 (api_Dir.enc (api_Dir.mk 0 0 (api_Qid.mk 0 0 0) 0 0 0 0 [] [] [] [])), .box b0 77 (stat_reader.enc y9.2)]) hE hS rfl rfl 0 rfl rfl rfl rfl (by kernel_rfl) (by kernel_rfl) (by kernel_rfl) (api_Dir.enc (api_Dir.mk y1.1 y2.1 (api_Qid.mk y3.1 y4.1 y5.1) y6.1 y7.1 y8.1 y9.1 [] [] [] [])) (by kernel_rfl) rfl fun w hS => ?_
  refine st_nil ?_
  refine n_then ?_
  refine wp_seq ?_
  refine r_list ?_
  refine st_pure hE rfl 33 rfl rfl (.pointer (some ⟨b0, 0, none⟩)) (by kernel_rfl) fun a hE => ?_
  obtain ⟨y10, h10, hF⟩ := bind_some hF
  refine go_call hE rfl 34 rfl rfl 68 _ (by kernel_rfl) (W_stat_reader_text y9.2 _ h10 _ (hS.box_at (i := 2) rfl)) fun a v w hR hE => ?_
  obtain ⟨rfl, hq⟩ := hR
  have hS := hS.lend (i := 2) rfl hq rfl
  refine st_pure hE rfl 35 rfl rfl (.pointer (some ⟨b0, 0, none⟩)) (by kernel_rfl) fun a hE => ?_
  obtain ⟨y11, h11, hF⟩ := bind_some hF
  refine go_call hE rfl 36 rfl rfl 68 _ (by kernel_rfl) (W_stat_reader_text y10.2 _ h11 _ (hS.box_at (i := 2) rfl)) fun a v w hR hE => ?_
  obtain ⟨rfl, hq⟩ := hR
  have hS := hS.lend (i := 2) rfl hq rfl
  refine st_pure hE rfl 37 rfl rfl (.pointer (some ⟨b0, 0, none⟩)) (by kernel_rfl) fun a hE => ?_
  obtain ⟨y12, h12, hF⟩ := bind_some hF
  refine go_call hE rfl 38 rfl rfl 68 _ (by kernel_rfl) (W_stat_reader_text y11.2 _ h12 _ (hS.box_at (i := 2) rfl)) fun a v w hR hE => ?_
  obtain ⟨rfl, hq⟩ := hR
  have hS := hS.lend (i := 2) rfl hq rfl
  refine st_pure hE rfl 39 rfl rfl (.pointer (some ⟨b0, 0, none⟩)) (by kernel_rfl) fun a hE => ?_
  obtain ⟨y13, h13, hF⟩ := bind_some hF
  refine go_call hE rfl 40 rfl rfl 68 _ (by kernel_rfl) (W_stat_reader_text y12.2 _ h13 _ (hS.box_at (i := 2) rfl)) fun a v w hR hE => ?_
  obtain ⟨rfl, hq⟩ := hR
  have hS := hS.lend (i := 2) rfl hq rfl
  refine st_pure hE rfl 41 rfl rfl (.pointer (some ⟨b2, 9, none⟩)) (by kernel_rfl) fun a hE => ?_
  refine go_set (L' := [.box b2 27 (api_Dir.enc (api_Dir.mk y1.1 y2.1 (api_Qid.mk y3.1 y4.1 y5.1) y6.1 y7.1 y8.1 y9.1 y10.1 [] [] [])), .box b1 27 (api_Dir.enc (api_Dir.mk 0 0 (api_Qid.mk 0 0 0) 0 0 0 0 [] [] [] [])), .box b0 77 (stat_reader.enc y13.2)]) hE hS rfl rfl 0 rfl rfl rfl rfl (by kernel_rfl) (by kernel_rfl) (by kernel_rfl) (api_Dir.enc (api_Dir.mk y1.1 y2.1 (api_Qid.mk y3.1 y4.1 y5.1) y6.1 y7.1 y8.1 y9.1 y10.1 [] [] [])) (by kernel_rfl) rfl fun w hS => ?_
  refine st_pure hE rfl 42 rfl rfl (.pointer (some ⟨b2, 10, none⟩)) (by kernel_rfl) fun a hE => ?_
  refine go_set (L' := [.box b2 27 (api_Dir.enc (api_Dir.mk y1.1 y2.1 (api_Qid.mk y3.1 y4.1 y5.1) y6.1 y7.1 y8.1 y9.1 y10.1 y11.1 [] [])), .box b1 27 (api_Dir.enc (api_Dir.mk 0 0 (api_Qid.mk 0 0 0) 0 0 0 0 [] [] [] [])), .box b0 77 (stat_reader.enc y13.2)]) hE hS rfl rfl 0 rfl rfl rfl rfl (by kernel_rfl) (by kernel_rfl) (by kernel_rfl) (api_Dir.enc (api_Dir.mk y1.1 y2.1 (api_Qid.mk y3.1 y4.1 y5.1) y6.1 y7.1 y8.1 y9.1 y10.1 y11.1 [] [])) (by kernel_rfl) rfl fun w hS => ?_
  refine st_pure hE rfl 43 rfl rfl (.pointer (some ⟨b2, 11, none⟩)) (by kernel_rfl) fun a hE => ?_
  refine go_set (L' := [.box b2 27 (api_Dir.enc (api_Dir.mk y1.1 y2.1 (api_Qid.mk y3.1 y4.1 y5.1) y6.1 y7.1 y8.1 y9.1 y10.1 y11.1 y12.1 [])), .box b1 27 (api_Dir.enc (api_Dir.mk 0 0 (api_Qid.mk 0 0 0) 0 0 0 0 [] [] [] [])), .box b0 77 (stat_reader.enc y13.2)]) hE hS rfl rfl 0 rfl rfl rfl rfl (by kernel_rfl) (by kernel_rfl) (by kernel_rfl) (api_Dir.enc (api_Dir.mk y1.1 y2.1 (api_Qid.mk y3.1 y4.1 y5.1) y6.1 y7.1 y8.1 y9.1 y10.1 y11.1 y12.1 [])) (by kernel_rfl) rfl fun w hS => ?_
  refine st_pure hE rfl 44 rfl rfl (.pointer (some ⟨b2, 12, none⟩)) (by kernel_rfl) fun a hE => ?_
  refine go_set (L' := [.box b2 27 (api_Dir.enc (api_Dir.mk y1.1 y2.1 (api_Qid.mk y3.1 y4.1 y5.1) y6.1 y7.1 y8.1 y9.1 y10.1 y11.1 y12.1 y13.1)), .box b1 27 (api_Dir.enc (api_Dir.mk 0 0 (api_Qid.mk 0 0 0) 0 0 0 0 [] [] [] [])), .box b0 77 (stat_reader.enc y13.2)]) hE hS rfl rfl 0 rfl rfl rfl rfl (by kernel_rfl) (by kernel_rfl) (by kernel_rfl) (api_Dir.enc (api_Dir.mk y1.1 y2.1 (api_Qid.mk y3.1 y4.1 y5.1) y6.1 y7.1 y8.1 y9.1 y10.1 y11.1 y12.1 y13.1)) (by kernel_rfl) rfl fun w hS => ?_
  refine st_nil ?_
  refine n_then ?_
  refine wp_seq ?_
  refine r_list ?_
  refine st_run hE rfl 45 rfl rfl (.agg (api_Dir.enc (api_Dir.mk y1.1 y2.1 (api_Qid.mk y3.1 y4.1 y5.1) y6.1 y7.1 y8.1 y9.1 y10.1 y11.1 y12.1 y13.1)).toArray) (ld_box hE hS 0 rfl rfl rfl (by kernel_rfl)) fun a hE => ?_
  refine go_set (L' := [.box b2 27 (api_Dir.enc (api_Dir.mk y1.1 y2.1 (api_Qid.mk y3.1 y4.1 y5.1) y6.1 y7.1 y8.1 y9.1 y10.1 y11.1 y12.1 y13.1)), .box b1 27 (api_Dir.enc (api_Dir.mk y1.1 y2.1 (api_Qid.mk y3.1 y4.1 y5.1) y6.1 y7.1 y8.1 y9.1 y10.1 y11.1 y12.1 y13.1)), .box b0 77 (stat_reader.enc y13.2)]) hE hS rfl rfl 1 rfl rfl rfl rfl (by kernel_rfl) (by kernel_rfl) (by kernel_rfl) (api_Dir.enc (api_Dir.mk y1.1 y2.1 (api_Qid.mk y3.1 y4.1 y5.1) y6.1 y7.1 y8.1 y9.1 y10.1 y11.1 y12.1 y13.1)) (by kernel_rfl) rfl fun w hS => ?_
  refine st_nil ?_
  refine n_then ?_
  refine wp_ret ?_
  obtain rfl := Option.some.inj hF
  exact out (rs := [.cell 2 27]) (vs := [.agg (api_Dir.enc (api_Dir.mk y1.1 y2.1 (api_Qid.mk y3.1 y4.1 y5.1) y6.1 y7.1 y8.1 y9.1 y10.1 y11.1 y12.1 y13.1)).toArray]) rfl hE hS (.cons (.cell (i := 1) rfl rfl (by kernel_rfl)) .nil) ⟨rfl, hS.pick [2] rfl rfl⟩
/-- filespace/stat.Get -/
theorem W_stat_Get (x0 : Str) (x1 : Int) (r : api_Dir × Int × Int) (hF : stat_Get x0 x1 = some r) (w0 : World)  : Ret Try.prog 33 #[S x0, .int .i64 x1] w0 fun v w => v = .tuple #[.agg (api_Dir.enc r.1).toArray, .int .i64 r.2.1, .int .i64 r.2.2] ∧ Sep [] w0 w [] := by
  refine enter Try.func33 rfl rfl rfl fun a hE => ?_
  have hS := Sep.start [] w0
  unfold stat_Get at hF
  refine wp_seq ?_
  refine r_list ?_
  refine go_box hE hS rfl 4 rfl rfl 27 (api_Dir.enc (api_Dir.mk 0 0 (api_Qid.mk 0 0 0) 0 0 0 0 [] [] [] [])) (fun _ => by kernel_rfl) fun a w b1 hx hE hS => ?_
  refine st_pure hE rfl 5 rfl rfl (.int .i64 0) (by kernel_rfl) fun a hE => ?_
  refine st_pure hE rfl 6 rfl rfl (.int .i64 0) (by kernel_rfl) fun a hE => ?_
  refine st_nil ?_
  refine n_then ?_
  refine wp_seq ?_
  refine r_list ?_
  refine st_pure hE rfl 14 rfl rfl (S x0) (by kernel_rfl) fun a hE => ?_
  refine st_pure hE rfl 15 rfl rfl (.int .i64 x1) (by kernel_rfl) fun a hE => ?_
  obtain ⟨y1, h1, hF⟩ := bind_some hF
  refine go_call hE rfl 16 rfl rfl 59 _ (by kernel_rfl) (W_octet_Get x0 x1 2 _ h1 _ ) fun a v w hR hE => ?_
  obtain ⟨rfl, hq⟩ := hR
  have hS := hS.call hq rfl
  refine st_pure hE rfl 13 rfl rfl (.tuple #[.int .i64 y1.1, .int .i64 y1.2.1, .int .i64 y1.2.2]) (by kernel_rfl) fun a hE => ?_
  refine st_pure hE rfl 17 rfl rfl (.int .i64 y1.1) (by kernel_rfl) fun a hE => ?_
  refine st_pure hE rfl 18 rfl rfl (.int .i64 y1.2.1) (by kernel_rfl) fun a hE => ?_
  refine st_pure hE rfl 19 rfl rfl (.int .i64 y1.2.2) (by kernel_rfl) fun a hE => ?_
  refine st_pure hE rfl 7 rfl rfl (.int .i64 y1.1) (by kernel_rfl) fun a hE => ?_
  refine st_pure hE rfl 8 rfl rfl (.int .i64 y1.2.1) (by kernel_rfl) fun a hE => ?_
  refine st_pure hE rfl 9 rfl rfl (.int .i64 y1.2.2) (by kernel_rfl) fun a hE => ?_
  refine st_nil ?_
  refine n_then ?_
  refine wp_seq ?_
  refine wp_block ?_
  refine wp_seq ?_
  refine r_list ?_
  refine st_pure hE rfl 21 rfl rfl (.int .i64 y1.2.2) (by kernel_rfl) fun a hE => ?_
  refine st_pure hE rfl 22 rfl rfl (.bool (y1.2.2 != 0)) (by kernel_rfl) fun a hE => ?_
  refine st_pure hE rfl 20 rfl rfl (.bool (y1.2.2 != 0)) (by kernel_rfl) fun a hE => ?_
  refine st_nil ?_
  refine n_then ?_
  rcases Bool.eq_false_or_eq_true (y1.2.2 != 0) with hb | hb
  · have hF := if_t hF hb
    refine c_true hE rfl hb ?_
    refine wp_seq ?_
    refine r_list ?_
    refine st_pure hE rfl 23 rfl rfl (.agg (api_Dir.enc (api_Dir.mk 0 0 (api_Qid.mk 0 0 0) 0 0 0 0 [] [] [] [])).toArray) (by kernel_rfl) fun a hE => ?_
    refine st_pure hE rfl 24 rfl rfl (.int .i64 y1.2.2) (by kernel_rfl) fun a hE => ?_
    refine go_set (L' := [.box b1 27 (api_Dir.enc (api_Dir.mk 0 0 (api_Qid.mk 0 0 0) 0 0 0 0 [] [] [] []))]) hE hS rfl rfl 0 rfl rfl rfl rfl (by kernel_rfl) (by kernel_rfl) (by kernel_rfl) (api_Dir.enc (api_Dir.mk 0 0 (api_Qid.mk 0 0 0) 0 0 0 0 [] [] [] [])) (by kernel_rfl) rfl fun w hS => ?_
    refine st_pure hE rfl 5 rfl rfl (.int .i64 0) (by kernel_rfl) fun a hE => ?_
    refine st_pure hE rfl 6 rfl rfl (.int .i64 y1.2.2) (by kernel_rfl) fun a hE => ?_
    refine st_nil ?_
    refine n_then ?_
    refine wp_ret ?_
    obtain rfl := Option.some.inj hF
    refine r_in (r_then ?_)
    exact out (rs := [.cell 4 27, .tmp 5, .tmp 6]) (vs := [.agg (api_Dir.enc (api_Dir.mk 0 0 (api_Qid.mk 0 0 0) 0 0 0 0 [] [] [] [])).toArray, .int .i64 0, .int .i64 y1.2.2]) rfl hE hS (.cons (.cell (i := 0) rfl rfl (by kernel_rfl)) (.cons (.tmp rfl) (.cons (.tmp rfl) .nil))) ⟨rfl, hS.pick [] rfl rfl⟩
  have hF := if_f hF hb
  refine c_false hE rfl hb ?_
  refine wp_seq ?_
  refine r_list ?_
  refine st_pure hE rfl 26 rfl rfl (S x0) (by kernel_rfl) fun a hE => ?_
  refine st_pure hE rfl 27 rfl rfl (.int .i64 (x0.length : Int)) (by kernel_rfl) fun a hE => ?_
  refine st_pure hE rfl 28 rfl rfl (.int .i64 y1.2.1) (by kernel_rfl) fun a hE => ?_
  refine st_pure hE rfl 29 rfl rfl (.int .i64 (w64 ((x0.length : Int) - y1.2.1))) (by kernel_rfl) fun a hE => ?_
  refine st_pure hE rfl 30 rfl rfl (.int .i64 y1.1) (by kernel_rfl) fun a hE => ?_
  refine st_pure hE rfl 31 rfl rfl (.bool (decide ((w64 ((x0.length : Int) - y1.2.1)) < y1.1))) (by kernel_rfl) fun a hE => ?_
  refine st_pure hE rfl 25 rfl rfl (.bool (decide ((w64 ((x0.length : Int) - y1.2.1)) < y1.1))) (by kernel_rfl) fun a hE => ?_
  refine st_nil ?_
  refine n_then ?_
  rcases Bool.eq_false_or_eq_true (decide ((w64 ((x0.length : Int) - y1.2.1)) < y1.1)) with hb | hb
  · have hF := if_t hF hb
    refine c_true hE rfl hb ?_
    refine wp_seq ?_
    refine r_list ?_
    refine st_pure hE rfl 32 rfl rfl (.agg (api_Dir.enc (api_Dir.mk 0 0 (api_Qid.mk 0 0 0) 0 0 0 0 [] [] [] [])).toArray) (by kernel_rfl) fun a hE => ?_
    refine go_set (L' := [.box b1 27 (api_Dir.enc (api_Dir.mk 0 0 (api_Qid.mk 0 0 0) 0 0 0 0 [] [] [] []))]) hE hS rfl rfl 0 rfl rfl rfl rfl (by kernel_rfl) (by kernel_rfl) (by kernel_rfl) (api_Dir.enc (api_Dir.mk 0 0 (api_Qid.mk 0 0 0) 0 0 0 0 [] [] [] [])) (by kernel_rfl) rfl fun w hS => ?_
    refine st_pure hE rfl 5 rfl rfl (.int .i64 0) (by kernel_rfl) fun a hE => ?_
    refine st_pure hE rfl 6 rfl rfl (.int .i64 3) (by kernel_rfl) fun a hE => ?_
    refine st_nil ?_
    refine n_then ?_
    refine wp_ret ?_
    obtain rfl := Option.some.inj hF
    refine r_in (r_then ?_)
    exact out (rs := [.cell 4 27, .tmp 5, .tmp 6]) (vs := [.agg (api_Dir.enc (api_Dir.mk 0 0 (api_Qid.mk 0 0 0) 0 0 0 0 [] [] [] [])).toArray, .int .i64 0, .int .i64 3]) rfl hE hS (.cons (.cell (i := 0) rfl rfl (by kernel_rfl)) (.cons (.tmp rfl) (.cons (.tmp rfl) .nil))) ⟨rfl, hS.pick [] rfl rfl⟩
  have hF := if_f hF hb
  refine c_false hE rfl hb ?_
  refine wp_skip ?_
  refine n_in ?_
  refine n_then ?_
  refine wp_seq ?_
  refine r_list ?_
  refine st_pure hE rfl 33 rfl rfl (S x0) (by kernel_rfl) fun a hE => ?_
  refine st_pure hE rfl 34 rfl rfl (.int .i64 y1.2.1) (by kernel_rfl) fun a hE => ?_
  refine st_pure hE rfl 35 rfl rfl (.int .i64 y1.2.1) (by kernel_rfl) fun a hE => ?_
  refine st_pure hE rfl 36 rfl rfl (.int .i64 y1.1) (by kernel_rfl) fun a hE => ?_
  refine st_pure hE rfl 37 rfl rfl (.int .i64 (w64 (y1.2.1 + y1.1))) (by kernel_rfl) fun a hE => ?_
  obtain ⟨y2, h2, hF⟩ := bind_some hF
  refine st_run hE rfl 38 rfl rfl (S y2) (run_str_sub (l := (some y1.2.1)) (h := (some (w64 (y1.2.1 + y1.1)))) rfl (by kernel_rfl) (hE.eval rfl) (bnd_some (hE.eval rfl)) (bnd_some (hE.eval rfl)) h2) fun a hE => ?_
  refine st_pure hE rfl 39 rfl rfl (.agg (stat_reader.enc (stat_reader.mk y2 0 true)).toArray) (by kernel_rfl) fun a hE => ?_
  refine go_box hE hS rfl 40 rfl rfl 77 (stat_reader.enc (stat_reader.mk y2 0 true)) (fun _ => by kernel_rfl) fun a w b2 hx hE hS => ?_
  refine st_pure hE rfl 10 rfl rfl (.pointer (some ⟨b2, 0, none⟩)) (by kernel_rfl) fun a hE => ?_
  refine st_nil ?_
  refine n_then ?_
  refine wp_seq ?_
  refine r_list ?_
  refine st_pure hE rfl 41 rfl rfl (.pointer (some ⟨b2, 0, none⟩)) (by kernel_rfl) fun a hE => ?_
  obtain ⟨y3, h3, hF⟩ := bind_some hF
  refine go_call hE rfl 42 rfl rfl 60 _ (by kernel_rfl) (W_stat_reader_read (stat_reader.mk y2 0 true) _ h3 _ (hS.box_at (i := 0) rfl)) fun a v w hR hE => ?_
  obtain ⟨rfl, hq⟩ := hR
  have hS := hS.lend (i := 0) rfl hq rfl
  refine go_box hE hS rfl 11 rfl rfl 27 (api_Dir.enc (api_Dir.mk 0 0 (api_Qid.mk 0 0 0) 0 0 0 0 [] [] [] [])) (fun _ => by kernel_rfl) fun a w b3 hx hE hS => ?_
  refine go_set (L' := [.box b3 27 (api_Dir.enc y3.1), .box b2 77 (stat_reader.enc y3.2), .box b1 27 (api_Dir.enc (api_Dir.mk 0 0 (api_Qid.mk 0 0 0) 0 0 0 0 [] [] [] []))]) hE hS rfl rfl 0 rfl rfl rfl rfl (by kernel_rfl) (by kernel_rfl) (by kernel_rfl) (api_Dir.enc y3.1) (by kernel_rfl) rfl fun w hS => ?_
  refine st_nil ?_
  refine n_then ?_
  refine wp_seq ?_
  refine wp_seq ?_
  refine r_list ?_
  refine st_pure hE rfl 43 rfl rfl (.pointer (some ⟨b2, 0, none⟩)) (by kernel_rfl) fun a hE => ?_
  refine st_pure hE rfl 44 rfl rfl (.pointer (some ⟨b2, 0, none⟩)) (by kernel_rfl) fun a hE => ?_
  refine st_pure hE rfl 45 rfl rfl (.pointer (some ⟨b2, 2, none⟩)) (by kernel_rfl) fun a hE => ?_
  refine st_run hE rfl 46 rfl rfl (.bool y3.2.ok_) (ld_box hE hS 1 rfl rfl rfl (by kernel_rfl)) fun a hE => ?_
  refine st_pure hE rfl 47 rfl rfl (.bool (!y3.2.ok_)) (by kernel_rfl) fun a hE => ?_
  refine st_pure hE rfl 48 rfl rfl (.bool (!y3.2.ok_)) (by kernel_rfl) fun a hE => ?_
  refine st_cut 7 (fun a w => Env 67 a [(55, .bool ((!y3.2.ok_) || (y3.2.at_ != y1.1))), (4, .pointer (some ⟨b1, 0, none⟩)), (7, .int .i64 y1.1), (8, .int .i64 y1.2.1), (11, .pointer (some ⟨b3, 0, none⟩))] ∧ Sep [] w0 w [.box b3 27 (api_Dir.enc y3.1), .box b2 77 (stat_reader.enc y3.2), .box b1 27 (api_Dir.enc (api_Dir.mk 0 0 (api_Qid.mk 0 0 0) 0 0 0 0 [] [] [] []))]) ?_ ?_
  · rcases Bool.eq_false_or_eq_true (!y3.2.ok_) with hb | hb
    · have hE := hE.bool (t := 48) rfl hb
      refine st_not hE rfl 49 rfl rfl fun a hE => ?_
      refine st_not hE rfl 50 rfl rfl fun a hE => ?_
      refine st_not hE rfl 51 rfl rfl fun a hE => ?_
      refine st_not hE rfl 52 rfl rfl fun a hE => ?_
      refine st_not hE rfl 53 rfl rfl fun a hE => ?_
      refine st_not hE rfl 54 rfl rfl fun a hE => ?_
      refine st_pure hE rfl 55 rfl rfl (.bool true) (by kernel_rfl) fun a hE => ?_
      have hE := hE.re (t := 55) rfl (congrArg Value.bool (or_t (e := (y3.2.at_ != y1.1)) hb))
      exact st_nil (n_then ⟨hE.sel ⟨rfl, rfl, rfl, rfl, rfl, trivial⟩, hS⟩)
    · have hE := hE.bool (t := 48) rfl hb
      refine st_pure hE rfl 49 rfl rfl (.pointer (some ⟨b2, 0, none⟩)) (by kernel_rfl) fun a hE => ?_
      refine st_pure hE rfl 50 rfl rfl (.pointer (some ⟨b2, 0, none⟩)) (by kernel_rfl) fun a hE => ?_
      refine st_pure hE rfl 51 rfl rfl (.pointer (some ⟨b2, 1, none⟩)) (by kernel_rfl) fun a hE => ?_
      refine st_run hE rfl 52 rfl rfl (.int .i64 y3.2.at_) (ld_box hE hS 1 rfl rfl rfl (by kernel_rfl)) fun a hE => ?_
      refine st_pure hE rfl 53 rfl rfl (.int .i64 y1.1) (by kernel_rfl) fun a hE => ?_
      refine st_pure hE rfl 54 rfl rfl (.bool (y3.2.at_ != y1.1)) (by kernel_rfl) fun a hE => ?_
      refine st_pure hE rfl 55 rfl rfl (.bool (y3.2.at_ != y1.1)) (by kernel_rfl) fun a hE => ?_
      have hE := hE.re (t := 55) rfl (congrArg Value.bool (or_f (e := (y3.2.at_ != y1.1)) hb))
      exact st_nil (n_then ⟨hE.sel ⟨rfl, rfl, rfl, rfl, rfl, trivial⟩, hS⟩)
  rintro a w ⟨hE, hS⟩
  refine st_nil ?_
  refine n_then ?_
  rcases Bool.eq_false_or_eq_true ((!y3.2.ok_) || (y3.2.at_ != y1.1)) with hb | hb
  · have hF := if_t hF hb
    refine c_true hE rfl hb ?_
    refine wp_seq ?_
    refine r_list ?_
    refine st_pure hE rfl 56 rfl rfl (.agg (api_Dir.enc (api_Dir.mk 0 0 (api_Qid.mk 0 0 0) 0 0 0 0 [] [] [] [])).toArray) (by kernel_rfl) fun a hE => ?_
    refine go_set (L' := [.box b3 27 (api_Dir.enc y3.1), .box b2 77 (stat_reader.enc y3.2), .box b1 27 (api_Dir.enc (api_Dir.mk 0 0 (api_Qid.mk 0 0 0) 0 0 0 0 [] [] [] []))]) hE hS rfl rfl 2 rfl rfl rfl rfl (by kernel_rfl) (by kernel_rfl) (by kernel_rfl) (api_Dir.enc (api_Dir.mk 0 0 (api_Qid.mk 0 0 0) 0 0 0 0 [] [] [] [])) (by kernel_rfl) rfl fun w hS => ?_
    refine st_pure hE rfl 5 rfl rfl (.int .i64 0) (by kernel_rfl) fun a hE => ?_
    refine st_pure hE rfl 6 rfl rfl (.int .i64 2) (by kernel_rfl) fun a hE => ?_
    refine st_nil ?_
    refine n_then ?_
    refine wp_ret ?_
    obtain rfl := Option.some.inj hF
    refine r_then ?_
    exact out (rs := [.cell 4 27, .tmp 5, .tmp 6]) (vs := [.agg (api_Dir.enc (api_Dir.mk 0 0 (api_Qid.mk 0 0 0) 0 0 0 0 [] [] [] [])).toArray, .int .i64 0, .int .i64 2]) rfl hE hS (.cons (.cell (i := 2) rfl rfl (by kernel_rfl)) (.cons (.tmp rfl) (.cons (.tmp rfl) .nil))) ⟨rfl, hS.pick [] rfl rfl⟩
  have hF := if_f hF hb
  refine c_false hE rfl hb ?_
  refine wp_skip ?_
  refine n_then ?_
  refine wp_seq ?_
  refine wp_seq ?_
  refine r_list ?_
  refine st_run hE rfl 57 rfl rfl (.agg (api_Dir.enc y3.1).toArray) (ld_box hE hS 0 rfl rfl rfl (by kernel_rfl)) fun a hE => ?_
  obtain ⟨y4, h4, hF⟩ := bind_some hF
  refine go_call hE rfl 58 rfl rfl 29 _ (by kernel_rfl) (W_stat_Check y3.1 _ h4 _ ) fun a v w hR hE => ?_
  obtain ⟨rfl, hq⟩ := hR
  have hS := hS.call hq rfl
  refine st_pure hE rfl 12 rfl rfl (.int .i64 y4) (by kernel_rfl) fun a hE => ?_
  refine st_nil ?_
  refine n_then ?_
  refine wp_seq ?_
  refine r_list ?_
  refine st_pure hE rfl 59 rfl rfl (.int .i64 y4) (by kernel_rfl) fun a hE => ?_
  refine st_pure hE rfl 60 rfl rfl (.bool (y4 != 0)) (by kernel_rfl) fun a hE => ?_
  refine st_nil ?_
  refine n_then ?_
  rcases Bool.eq_false_or_eq_true (y4 != 0) with hb | hb
  · have hF := if_t hF hb
    refine c_true hE rfl hb ?_
    refine wp_seq ?_
    refine r_list ?_
    refine st_pure hE rfl 61 rfl rfl (.agg (api_Dir.enc (api_Dir.mk 0 0 (api_Qid.mk 0 0 0) 0 0 0 0 [] [] [] [])).toArray) (by kernel_rfl) fun a hE => ?_
    refine st_pure hE rfl 62 rfl rfl (.int .i64 y4) (by kernel_rfl) fun a hE => ?_
    refine go_set (L' := [.box b3 27 (api_Dir.enc y3.1), .box b2 77 (stat_reader.enc y3.2), .box b1 27 (api_Dir.enc (api_Dir.mk 0 0 (api_Qid.mk 0 0 0) 0 0 0 0 [] [] [] []))]) hE hS rfl rfl 2 rfl rfl rfl rfl (by kernel_rfl) (by kernel_rfl) (by kernel_rfl) (api_Dir.enc (api_Dir.mk 0 0 (api_Qid.mk 0 0 0) 0 0 0 0 [] [] [] [])) (by kernel_rfl) rfl fun w hS => ?_
    refine st_pure hE rfl 5 rfl rfl (.int .i64 0) (by kernel_rfl) fun a hE => ?_
    refine st_pure hE rfl 6 rfl rfl (.int .i64 y4) (by kernel_rfl) fun a hE => ?_
    refine st_nil ?_
    refine n_then ?_
    refine wp_ret ?_
    obtain rfl := Option.some.inj hF
    refine r_then ?_
    exact out (rs := [.cell 4 27, .tmp 5, .tmp 6]) (vs := [.agg (api_Dir.enc (api_Dir.mk 0 0 (api_Qid.mk 0 0 0) 0 0 0 0 [] [] [] [])).toArray, .int .i64 0, .int .i64 y4]) rfl hE hS (.cons (.cell (i := 2) rfl rfl (by kernel_rfl)) (.cons (.tmp rfl) (.cons (.tmp rfl) .nil))) ⟨rfl, hS.pick [] rfl rfl⟩
  have hF := if_f hF hb
  refine c_false hE rfl hb ?_
  refine wp_skip ?_
  refine n_then ?_
  refine wp_seq ?_
  refine r_list ?_
  refine st_run hE rfl 63 rfl rfl (.agg (api_Dir.enc y3.1).toArray) (ld_box hE hS 0 rfl rfl rfl (by kernel_rfl)) fun a hE => ?_
  refine st_pure hE rfl 64 rfl rfl (.int .i64 y1.2.1) (by kernel_rfl) fun a hE => ?_
  refine st_pure hE rfl 65 rfl rfl (.int .i64 y1.1) (by kernel_rfl) fun a hE => ?_
  refine st_pure hE rfl 66 rfl rfl (.int .i64 (w64 (y1.2.1 + y1.1))) (by kernel_rfl) fun a hE => ?_
  refine go_set (L' := [.box b3 27 (api_Dir.enc y3.1), .box b2 77 (stat_reader.enc y3.2), .box b1 27 (api_Dir.enc y3.1)]) hE hS rfl rfl 2 rfl rfl rfl rfl (by kernel_rfl) (by kernel_rfl) (by kernel_rfl) (api_Dir.enc y3.1) (by kernel_rfl) rfl fun w hS => ?_
  refine st_pure hE rfl 5 rfl rfl (.int .i64 (w64 (y1.2.1 + y1.1))) (by kernel_rfl) fun a hE => ?_
  refine st_pure hE rfl 6 rfl rfl (.int .i64 0) (by kernel_rfl) fun a hE => ?_
  refine st_nil ?_
  refine n_then ?_
  refine wp_ret ?_
  obtain rfl := Option.some.inj hF
  exact out (rs := [.cell 4 27, .tmp 5, .tmp 6]) (vs := [.agg (api_Dir.enc y3.1).toArray, .int .i64 (w64 (y1.2.1 + y1.1)), .int .i64 0]) rfl hE hS (.cons (.cell (i := 2) rfl rfl (by kernel_rfl)) (.cons (.tmp rfl) (.cons (.tmp rfl) .nil))) ⟨rfl, hS.pick [] rfl rfl⟩
/-- filespace/stat.None -/
theorem W_stat_None  (r : api_Dir) (hF : stat_None = some r) (w0 : World)  : Ret Try.prog 35 #[] w0 fun v w => v = .agg (api_Dir.enc r).toArray ∧ Sep [] w0 w [] := by
  refine enter Try.func35 rfl rfl rfl fun a hE => ?_
  have hS := Sep.start [] w0
  unfold stat_None at hF
  refine wp_seq ?_
  refine r_list ?_
  refine go_box hE hS rfl 0 rfl rfl 27 (api_Dir.enc (api_Dir.mk 0 0 (api_Qid.mk 0 0 0) 0 0 0 0 [] [] [] [])) (fun _ => by kernel_rfl) fun a w b1 hx hE hS => ?_
  refine st_nil ?_
  refine n_then ?_
  refine wp_seq ?_
  refine r_list ?_
  refine st_pure hE rfl 1 rfl rfl (.int .i64 (-1)) (by kernel_rfl) fun a hE => ?_
  refine st_nil ?_
  refine n_then ?_
  refine wp_seq ?_
  refine r_list ?_
  refine st_pure hE rfl 2 rfl rfl (.int .i64 (-1)) (by kernel_rfl) fun a hE => ?_
  refine st_pure hE rfl 3 rfl rfl (.int .i64 (-1)) (by kernel_rfl) fun a hE => ?_
  refine st_pure hE rfl 4 rfl rfl (.int .i64 (-1)) (by kernel_rfl) fun a hE => ?_
  refine st_pure hE rfl 5 rfl rfl (.int .i64 (-1)) (by kernel_rfl) fun a hE => ?_
  refine st_pure hE rfl 6 rfl rfl (.int .i64 (-1)) (by kernel_rfl) fun a hE => ?_
  refine st_pure hE rfl 7 rfl rfl (.agg (api_Qid.enc (api_Qid.mk (-1) (-1) (-1))).toArray) (by kernel_rfl) fun a hE => ?_
  refine st_pure hE rfl 8 rfl rfl (.int .i64 (-1)) (by kernel_rfl) fun a hE => ?_
  refine st_pure hE rfl 9 rfl rfl (.int .i64 (-1)) (by kernel_rfl) fun a hE => ?_
  refine st_pure hE rfl 10 rfl rfl (.int .i64 (-1)) (by kernel_rfl) fun a hE => ?_
  refine st_pure hE rfl 11 rfl rfl (.int .i64 (-1)) (by kernel_rfl) fun a hE => ?_
  refine st_pure hE rfl 12 rfl rfl (.agg (api_Dir.enc (api_Dir.mk (-1) (-1) (api_Qid.mk (-1) (-1) (-1)) (-1) (-1) (-1) (-1) [] [] [] [])).toArray) (by kernel_rfl) fun a hE => ?_
  refine go_set (L' := [.box b1 27 (api_Dir.enc (api_Dir.mk (-1) (-1) (api_Qid.mk (-1) (-1) (-1)) (-1) (-1) (-1) (-1) [] [] [] []))]) hE hS rfl rfl 0 rfl rfl rfl rfl (by kernel_rfl) (by kernel_rfl) (by kernel_rfl) (api_Dir.enc (api_Dir.mk (-1) (-1) (api_Qid.mk (-1) (-1) (-1)) (-1) (-1) (-1) (-1) [] [] [] [])) (by kernel_rfl) rfl fun w hS => ?_
  refine st_nil ?_
  refine n_then ?_
  refine wp_ret ?_
  obtain rfl := Option.some.inj hF
  exact out (rs := [.cell 0 27]) (vs := [.agg (api_Dir.enc (api_Dir.mk (-1) (-1) (api_Qid.mk (-1) (-1) (-1)) (-1) (-1) (-1) (-1) [] [] [] [])).toArray]) rfl hE hS (.cons (.cell (i := 0) rfl rfl (by kernel_rfl)) .nil) ⟨rfl, hS.pick [] rfl rfl⟩
/-- filespace/stat.Changes -/
theorem W_stat_Changes (x0 : api_Dir) (r : Bool) (hF : stat_Changes x0 = some r) (w0 : World)  : Ret Try.prog 37 #[.agg (api_Dir.enc x0).toArray] w0 fun v w => v = .bool r ∧ Sep [] w0 w [] := by
  refine enter Try.func37 rfl rfl rfl fun a hE => ?_
  have hS := Sep.start [] w0
  unfold stat_Changes at hF
  refine wp_seq ?_
  refine r_list ?_
  refine go_box hE hS rfl 1 rfl rfl 27 (api_Dir.enc x0) (fun _ => by kernel_rfl) fun a w b1 hx hE hS => ?_
  refine st_pure hE rfl 2 rfl rfl (.bool false) (by kernel_rfl) fun a hE => ?_
  refine st_nil ?_
  refine n_then ?_
  refine wp_seq ?_
  refine r_mix [] [(0, false), (1, false), (2, false), (3, false)] rfl (by kernel_rfl) ?_
  have hW := hS
  have hX := hS.now
  refine mx_run hE rfl rfl 3 rfl rfl (.agg (api_Dir.enc x0).toArray) (fun w hx => ld_box hE (hW.ext hx) 0 rfl rfl rfl (by kernel_rfl)) fun a hE => ?_
  obtain ⟨y1, h1, hF⟩ := bind_some hF
  refine mx_call hE rfl rfl 4 rfl rfl 35 _ (by kernel_rfl) (.agg (api_Dir.enc y1).toArray) (fun w hx => (W_stat_None  _ h1 _ ).mono fun u w ⟨hu, hq⟩ => ⟨hu, Ext.of_sep hq⟩) fun a hE => ?_
  refine mx_run hE rfl rfl 5 rfl rfl (.bool (!(decide (x0 = y1)))) (fun w hx => run_agg_neq rfl (hE.eval rfl) (hE.eval rfl) (api_Dir_eqIs _ _)) fun a hE => ?_
  refine mx_pure hE rfl rfl 2 rfl rfl (.bool (!(decide (x0 = y1)))) (by kernel_rfl) fun a hE => ?_
  refine mx_nil fun w hx => ?_
  have hS := hS.ext hx
  refine n_then ?_
  refine wp_ret ?_
  obtain rfl := Option.some.inj hF
  exact out (rs := [.tmp 2]) (vs := [.bool (!(decide (x0 = y1)))]) rfl hE hS (.cons (.tmp rfl) .nil) ⟨rfl, hS.pick [] rfl rfl⟩
/-- filespace/filespacelaw07.awake -/
theorem W_law07_awake  (r : Bool) (hF : law07_awake = some r) (w0 : World)  : Ret Try.prog 28 #[] w0 fun v w => v = .bool r ∧ Sep [] w0 w [] := by
  refine enter Try.func28 rfl rfl rfl fun a hE => ?_
  have hS := Sep.start [] w0
  unfold law07_awake at hF
  refine wp_seq ?_
  refine r_list ?_
  refine st_pure hE rfl 0 rfl rfl (.bool false) (by kernel_rfl) fun a hE => ?_
  refine st_nil ?_
  refine n_then ?_
  refine wp_seq ?_
  refine r_list ?_
  refine st_pure hE rfl 6 rfl rfl (.agg (api_Qid.enc (api_Qid.mk 128 2 1)).toArray) (by kernel_rfl) fun a hE => ?_
  refine st_pure hE rfl 7 rfl rfl (.agg (api_Dir.enc (api_Dir.mk 1 0 (api_Qid.mk 128 2 1) 2147484141 5 6 0 [47] [97, 100, 109] [97, 100, 109] [])).toArray) (by kernel_rfl) fun a hE => ?_
  refine go_box hE hS rfl 1 rfl rfl 27 (api_Dir.enc (api_Dir.mk 0 0 (api_Qid.mk 0 0 0) 0 0 0 0 [] [] [] [])) (fun _ => by kernel_rfl) fun a w b1 hx hE hS => ?_
  refine go_set (L' := [.box b1 27 (api_Dir.enc (api_Dir.mk 1 0 (api_Qid.mk 128 2 1) 2147484141 5 6 0 [47] [97, 100, 109] [97, 100, 109] []))]) hE hS rfl rfl 0 rfl rfl rfl rfl (by kernel_rfl) (by kernel_rfl) (by kernel_rfl) (api_Dir.enc (api_Dir.mk 1 0 (api_Qid.mk 128 2 1) 2147484141 5 6 0 [47] [97, 100, 109] [97, 100, 109] [])) (by kernel_rfl) rfl fun w hS => ?_
  refine st_nil ?_
  refine n_then ?_
  refine wp_seq ?_
  refine r_list ?_
  refine st_run hE rfl 9 rfl rfl (.agg (api_Dir.enc (api_Dir.mk 1 0 (api_Qid.mk 128 2 1) 2147484141 5 6 0 [47] [97, 100, 109] [97, 100, 109] [])).toArray) (ld_box hE hS 0 rfl rfl rfl (by kernel_rfl)) fun a hE => ?_
  obtain ⟨y1, h1, hF⟩ := bind_some hF
  refine go_call hE rfl 10 rfl rfl 31 _ (by kernel_rfl) (W_stat_Put (api_Dir.mk 1 0 (api_Qid.mk 128 2 1) 2147484141 5 6 0 [47] [97, 100, 109] [97, 100, 109] []) _ h1 _ ) fun a v w hR hE => ?_
  obtain ⟨rfl, hq⟩ := hR
  have hS := hS.call hq rfl
  refine st_pure hE rfl 8 rfl rfl (.tuple #[S y1.1, .int .i64 y1.2]) (by kernel_rfl) fun a hE => ?_
  refine st_pure hE rfl 11 rfl rfl (S y1.1) (by kernel_rfl) fun a hE => ?_
  refine st_pure hE rfl 12 rfl rfl (.int .i64 y1.2) (by kernel_rfl) fun a hE => ?_
  refine st_pure hE rfl 2 rfl rfl (S y1.1) (by kernel_rfl) fun a hE => ?_
  refine st_pure hE rfl 3 rfl rfl (.int .i64 y1.2) (by kernel_rfl) fun a hE => ?_
  refine st_nil ?_
  refine n_then ?_
  refine wp_seq ?_
  refine wp_seq ?_
  refine r_list ?_
  refine st_pure hE rfl 13 rfl rfl (.int .i64 y1.2) (by kernel_rfl) fun a hE => ?_
  refine st_pure hE rfl 14 rfl rfl (.bool (y1.2 != 0)) (by kernel_rfl) fun a hE => ?_
  refine st_pure hE rfl 15 rfl rfl (.bool (y1.2 != 0)) (by kernel_rfl) fun a hE => ?_
  refine st_cut 4 (fun a w => Env 51 a [(19, .bool ((y1.2 != 0) || ((y1.1.length : Int) != 64))), (1, .pointer (some ⟨b1, 0, none⟩)), (2, S y1.1)] ∧ Sep [] w0 w [.box b1 27 (api_Dir.enc (api_Dir.mk 1 0 (api_Qid.mk 128 2 1) 2147484141 5 6 0 [47] [97, 100, 109] [97, 100, 109] []))]) ?_ ?_
  · rcases Bool.eq_false_or_eq_true (y1.2 != 0) with hb | hb
    · have hE := hE.bool (t := 15) rfl hb
      refine st_not hE rfl 16 rfl rfl fun a hE => ?_
      refine st_not hE rfl 17 rfl rfl fun a hE => ?_
      refine st_not hE rfl 18 rfl rfl fun a hE => ?_
      refine st_pure hE rfl 19 rfl rfl (.bool true) (by kernel_rfl) fun a hE => ?_
      have hE := hE.re (t := 19) rfl (congrArg Value.bool (or_t (e := ((y1.1.length : Int) != 64)) hb))
      exact st_nil (n_then ⟨hE.sel ⟨rfl, rfl, rfl, trivial⟩, hS⟩)
    · have hE := hE.bool (t := 15) rfl hb
      refine st_pure hE rfl 16 rfl rfl (S y1.1) (by kernel_rfl) fun a hE => ?_
      refine st_pure hE rfl 17 rfl rfl (.int .i64 (y1.1.length : Int)) (by kernel_rfl) fun a hE => ?_
      refine st_pure hE rfl 18 rfl rfl (.bool ((y1.1.length : Int) != 64)) (by kernel_rfl) fun a hE => ?_
      refine st_pure hE rfl 19 rfl rfl (.bool ((y1.1.length : Int) != 64)) (by kernel_rfl) fun a hE => ?_
      have hE := hE.re (t := 19) rfl (congrArg Value.bool (or_f (e := ((y1.1.length : Int) != 64)) hb))
      exact st_nil (n_then ⟨hE.sel ⟨rfl, rfl, rfl, trivial⟩, hS⟩)
  rintro a w ⟨hE, hS⟩
  refine st_pure hE rfl 20 rfl rfl (.bool ((y1.2 != 0) || ((y1.1.length : Int) != 64))) (by kernel_rfl) fun a hE => ?_
  obtain ⟨y2, h2, hF⟩ := bind_some hF
  refine st_cut 4 (fun a w => Env 51 a [(24, .bool y2), (1, .pointer (some ⟨b1, 0, none⟩)), (2, S y1.1)] ∧ Sep [] w0 w [.box b1 27 (api_Dir.enc (api_Dir.mk 1 0 (api_Qid.mk 128 2 1) 2147484141 5 6 0 [47] [97, 100, 109] [97, 100, 109] []))]) ?_ ?_
  · rcases Bool.eq_false_or_eq_true ((y1.2 != 0) || ((y1.1.length : Int) != 64)) with hb | hb
    · have hE := hE.bool (t := 20) rfl hb
      have h2 := if_t h2 hb
      refine st_not hE rfl 21 rfl rfl fun a hE => ?_
      refine st_not hE rfl 22 rfl rfl fun a hE => ?_
      refine st_not hE rfl 23 rfl rfl fun a hE => ?_
      refine st_pure hE rfl 24 rfl rfl (.bool true) (by kernel_rfl) fun a hE => ?_
      obtain rfl := Option.some.inj h2
      exact st_nil (n_then ⟨hE.sel ⟨rfl, rfl, rfl, trivial⟩, hS⟩)
    · have hE := hE.bool (t := 20) rfl hb
      have h2 := if_f h2 hb
      refine st_pure hE rfl 21 rfl rfl (S y1.1) (by kernel_rfl) fun a hE => ?_
      obtain ⟨y3, h3, h2⟩ := bind_some h2
      refine st_run hE rfl 22 rfl rfl (.int .u8 y3) (run_byteI rfl (by kernel_rfl) (hE.eval rfl) (hE.eval rfl) h3) fun a hE => ?_
      refine st_pure hE rfl 23 rfl rfl (.bool (y3 != 62)) (by kernel_rfl) fun a hE => ?_
      refine st_pure hE rfl 24 rfl rfl (.bool (y3 != 62)) (by kernel_rfl) fun a hE => ?_
      obtain rfl := Option.some.inj h2
      exact st_nil (n_then ⟨hE.sel ⟨rfl, rfl, rfl, trivial⟩, hS⟩)
  rintro a w ⟨hE, hS⟩
  refine st_nil ?_
  refine n_then ?_
  rcases Bool.eq_false_or_eq_true y2 with hb | hb
  · have hF := if_t hF hb
    refine c_true hE rfl hb ?_
    refine wp_seq ?_
    refine r_list ?_
    refine st_pure hE rfl 0 rfl rfl (.bool false) (by kernel_rfl) fun a hE => ?_
    refine st_nil ?_
    refine n_then ?_
    refine wp_ret ?_
    obtain rfl := Option.some.inj hF
    refine r_then ?_
    exact out (rs := [.tmp 0]) (vs := [.bool false]) rfl hE hS (.cons (.tmp rfl) .nil) ⟨rfl, hS.pick [] rfl rfl⟩
  have hF := if_f hF hb
  refine c_false hE rfl hb ?_
  refine wp_skip ?_
  refine n_then ?_
  refine wp_seq ?_
  refine r_list ?_
  refine st_pure hE rfl 26 rfl rfl (S y1.1) (by kernel_rfl) fun a hE => ?_
  obtain ⟨y4, h4, hF⟩ := bind_some hF
  refine go_call hE rfl 27 rfl rfl 33 _ (by kernel_rfl) (W_stat_Get y1.1 0 _ h4 _ ) fun a v w hR hE => ?_
  obtain ⟨rfl, hq⟩ := hR
  have hS := hS.call hq rfl
  refine st_pure hE rfl 25 rfl rfl (.tuple #[.agg (api_Dir.enc y4.1).toArray, .int .i64 y4.2.1, .int .i64 y4.2.2]) (by kernel_rfl) fun a hE => ?_
  refine st_pure hE rfl 28 rfl rfl (.agg (api_Dir.enc y4.1).toArray) (by kernel_rfl) fun a hE => ?_
  refine st_pure hE rfl 29 rfl rfl (.int .i64 y4.2.1) (by kernel_rfl) fun a hE => ?_
  refine st_pure hE rfl 30 rfl rfl (.int .i64 y4.2.2) (by kernel_rfl) fun a hE => ?_
  refine go_box hE hS rfl 4 rfl rfl 27 (api_Dir.enc (api_Dir.mk 0 0 (api_Qid.mk 0 0 0) 0 0 0 0 [] [] [] [])) (fun _ => by kernel_rfl) fun a w b2 hx hE hS => ?_
  refine go_set (L' := [.box b2 27 (api_Dir.enc y4.1), .box b1 27 (api_Dir.enc (api_Dir.mk 1 0 (api_Qid.mk 128 2 1) 2147484141 5 6 0 [47] [97, 100, 109] [97, 100, 109] []))]) hE hS rfl rfl 0 rfl rfl rfl rfl (by kernel_rfl) (by kernel_rfl) (by kernel_rfl) (api_Dir.enc y4.1) (by kernel_rfl) rfl fun w hS => ?_
  refine st_pure hE rfl 5 rfl rfl (.int .i64 y4.2.1) (by kernel_rfl) fun a hE => ?_
  refine st_pure hE rfl 3 rfl rfl (.int .i64 y4.2.2) (by kernel_rfl) fun a hE => ?_
  refine st_nil ?_
  refine n_then ?_
  refine wp_seq ?_
  refine r_list ?_
  refine st_pure hE rfl 31 rfl rfl (.int .i64 y4.2.2) (by kernel_rfl) fun a hE => ?_
  refine st_pure hE rfl 32 rfl rfl (.bool (y4.2.2 == 0)) (by kernel_rfl) fun a hE => ?_
  refine st_pure hE rfl 33 rfl rfl (.bool (y4.2.2 == 0)) (by kernel_rfl) fun a hE => ?_
  refine st_cut 3 (fun a w => Env 51 a [(36, .bool ((y4.2.2 == 0) && (y4.2.1 == 64))), (1, .pointer (some ⟨b1, 0, none⟩)), (4, .pointer (some ⟨b2, 0, none⟩))] ∧ Sep [] w0 w [.box b2 27 (api_Dir.enc y4.1), .box b1 27 (api_Dir.enc (api_Dir.mk 1 0 (api_Qid.mk 128 2 1) 2147484141 5 6 0 [47] [97, 100, 109] [97, 100, 109] []))]) ?_ ?_
  · rcases Bool.eq_false_or_eq_true (y4.2.2 == 0) with hb | hb
    · have hE := hE.bool (t := 33) rfl hb
      refine st_pure hE rfl 34 rfl rfl (.int .i64 y4.2.1) (by kernel_rfl) fun a hE => ?_
      refine st_pure hE rfl 35 rfl rfl (.bool (y4.2.1 == 64)) (by kernel_rfl) fun a hE => ?_
      refine st_pure hE rfl 36 rfl rfl (.bool (y4.2.1 == 64)) (by kernel_rfl) fun a hE => ?_
      have hE := hE.re (t := 36) rfl (congrArg Value.bool (and_t (e := (y4.2.1 == 64)) hb))
      exact st_nil (n_then ⟨hE.sel ⟨rfl, rfl, rfl, trivial⟩, hS⟩)
    · have hE := hE.bool (t := 33) rfl hb
      refine st_not hE rfl 34 rfl rfl fun a hE => ?_
      refine st_not hE rfl 35 rfl rfl fun a hE => ?_
      refine st_pure hE rfl 36 rfl rfl (.bool false) (by kernel_rfl) fun a hE => ?_
      have hE := hE.re (t := 36) rfl (congrArg Value.bool (and_f (e := (y4.2.1 == 64)) hb))
      exact st_nil (n_then ⟨hE.sel ⟨rfl, rfl, rfl, trivial⟩, hS⟩)
  rintro a w ⟨hE, hS⟩
  refine st_pure hE rfl 37 rfl rfl (.bool ((y4.2.2 == 0) && (y4.2.1 == 64))) (by kernel_rfl) fun a hE => ?_
  refine st_cut 4 (fun a w => Env 51 a [(41, .bool (((y4.2.2 == 0) && (y4.2.1 == 64)) && (decide (y4.1 = (api_Dir.mk 1 0 (api_Qid.mk 128 2 1) 2147484141 5 6 0 [47] [97, 100, 109] [97, 100, 109] []))))), (1, .pointer (some ⟨b1, 0, none⟩))] ∧ Sep [] w0 w [.box b2 27 (api_Dir.enc y4.1), .box b1 27 (api_Dir.enc (api_Dir.mk 1 0 (api_Qid.mk 128 2 1) 2147484141 5 6 0 [47] [97, 100, 109] [97, 100, 109] []))]) ?_ ?_
  · rcases Bool.eq_false_or_eq_true ((y4.2.2 == 0) && (y4.2.1 == 64)) with hb | hb
    · have hE := hE.bool (t := 37) rfl hb
      refine st_run hE rfl 38 rfl rfl (.agg (api_Dir.enc y4.1).toArray) (ld_box hE hS 0 rfl rfl rfl (by kernel_rfl)) fun a hE => ?_
      refine st_run hE rfl 39 rfl rfl (.agg (api_Dir.enc (api_Dir.mk 1 0 (api_Qid.mk 128 2 1) 2147484141 5 6 0 [47] [97, 100, 109] [97, 100, 109] [])).toArray) (ld_box hE hS 1 rfl rfl rfl (by kernel_rfl)) fun a hE => ?_
      refine st_run hE rfl 40 rfl rfl (.bool (decide (y4.1 = (api_Dir.mk 1 0 (api_Qid.mk 128 2 1) 2147484141 5 6 0 [47] [97, 100, 109] [97, 100, 109] [])))) (run_agg_eql rfl (hE.eval rfl) (hE.eval rfl) (api_Dir_eqIs _ _)) fun a hE => ?_
      refine st_pure hE rfl 41 rfl rfl (.bool (decide (y4.1 = (api_Dir.mk 1 0 (api_Qid.mk 128 2 1) 2147484141 5 6 0 [47] [97, 100, 109] [97, 100, 109] [])))) (by kernel_rfl) fun a hE => ?_
      have hE := hE.re (t := 41) rfl (congrArg Value.bool (and_t (e := (decide (y4.1 = (api_Dir.mk 1 0 (api_Qid.mk 128 2 1) 2147484141 5 6 0 [47] [97, 100, 109] [97, 100, 109] [])))) hb))
      exact st_nil (n_then ⟨hE.sel ⟨rfl, rfl, trivial⟩, hS⟩)
    · have hE := hE.bool (t := 37) rfl hb
      refine st_not hE rfl 38 rfl rfl fun a hE => ?_
      refine st_not hE rfl 39 rfl rfl fun a hE => ?_
      refine st_not hE rfl 40 rfl rfl fun a hE => ?_
      refine st_pure hE rfl 41 rfl rfl (.bool false) (by kernel_rfl) fun a hE => ?_
      have hE := hE.re (t := 41) rfl (congrArg Value.bool (and_f (e := (decide (y4.1 = (api_Dir.mk 1 0 (api_Qid.mk 128 2 1) 2147484141 5 6 0 [47] [97, 100, 109] [97, 100, 109] [])))) hb))
      exact st_nil (n_then ⟨hE.sel ⟨rfl, rfl, trivial⟩, hS⟩)
  rintro a w ⟨hE, hS⟩
  refine st_pure hE rfl 42 rfl rfl (.bool (((y4.2.2 == 0) && (y4.2.1 == 64)) && (decide (y4.1 = (api_Dir.mk 1 0 (api_Qid.mk 128 2 1) 2147484141 5 6 0 [47] [97, 100, 109] [97, 100, 109] []))))) (by kernel_rfl) fun a hE => ?_
  obtain ⟨y5, h5, hF⟩ := bind_some hF
  refine st_cut 3 (fun a w => Env 51 a [(45, .bool y5)] ∧ Sep [] w0 w [.box b2 27 (api_Dir.enc y4.1), .box b1 27 (api_Dir.enc (api_Dir.mk 1 0 (api_Qid.mk 128 2 1) 2147484141 5 6 0 [47] [97, 100, 109] [97, 100, 109] []))]) ?_ ?_
  · rcases Bool.eq_false_or_eq_true (((y4.2.2 == 0) && (y4.2.1 == 64)) && (decide (y4.1 = (api_Dir.mk 1 0 (api_Qid.mk 128 2 1) 2147484141 5 6 0 [47] [97, 100, 109] [97, 100, 109] [])))) with hb | hb
    · have hE := hE.bool (t := 42) rfl hb
      have h5 := if_t h5 hb
      refine st_run hE rfl 43 rfl rfl (.agg (api_Dir.enc (api_Dir.mk 1 0 (api_Qid.mk 128 2 1) 2147484141 5 6 0 [47] [97, 100, 109] [97, 100, 109] [])).toArray) (ld_box hE hS 1 rfl rfl rfl (by kernel_rfl)) fun a hE => ?_
      obtain ⟨y6, h6, h5⟩ := bind_some h5
      refine go_call hE rfl 44 rfl rfl 37 _ (by kernel_rfl) (W_stat_Changes (api_Dir.mk 1 0 (api_Qid.mk 128 2 1) 2147484141 5 6 0 [47] [97, 100, 109] [97, 100, 109] []) _ h6 _ ) fun a v w hR hE => ?_
      obtain ⟨rfl, hq⟩ := hR
      have hS := hS.call hq rfl
      refine st_pure hE rfl 45 rfl rfl (.bool y6) (by kernel_rfl) fun a hE => ?_
      obtain rfl := Option.some.inj h5
      exact st_nil (n_then ⟨hE.sel ⟨rfl, trivial⟩, hS⟩)
    · have hE := hE.bool (t := 42) rfl hb
      have h5 := if_f h5 hb
      refine st_not hE rfl 43 rfl rfl fun a hE => ?_
      refine st_not hE rfl 44 rfl rfl fun a hE => ?_
      refine st_pure hE rfl 45 rfl rfl (.bool false) (by kernel_rfl) fun a hE => ?_
      obtain rfl := Option.some.inj h5
      exact st_nil (n_then ⟨hE.sel ⟨rfl, trivial⟩, hS⟩)
  rintro a w ⟨hE, hS⟩
  refine st_pure hE rfl 46 rfl rfl (.bool y5) (by kernel_rfl) fun a hE => ?_
  obtain ⟨y7, h7, hF⟩ := bind_some hF
  refine st_cut 4 (fun a w => Env 51 a [(50, .bool y7)] ∧ Sep [] w0 w [.box b2 27 (api_Dir.enc y4.1), .box b1 27 (api_Dir.enc (api_Dir.mk 1 0 (api_Qid.mk 128 2 1) 2147484141 5 6 0 [47] [97, 100, 109] [97, 100, 109] []))]) ?_ ?_
  · rcases Bool.eq_false_or_eq_true y5 with hb | hb
    · have hE := hE.bool (t := 46) rfl hb
      have h7 := if_t h7 hb
      obtain ⟨y8, h8, h7⟩ := bind_some h7
      refine go_call hE rfl 47 rfl rfl 35 _ (by kernel_rfl) (W_stat_None  _ h8 _ ) fun a v w hR hE => ?_
      obtain ⟨rfl, hq⟩ := hR
      have hS := hS.call hq rfl
      obtain ⟨y9, h9, h7⟩ := bind_some h7
      refine go_call hE rfl 48 rfl rfl 37 _ (by kernel_rfl) (W_stat_Changes y8 _ h9 _ ) fun a v w hR hE => ?_
      obtain ⟨rfl, hq⟩ := hR
      have hS := hS.call hq rfl
      refine st_pure hE rfl 49 rfl rfl (.bool (!y9)) (by kernel_rfl) fun a hE => ?_
      refine st_pure hE rfl 50 rfl rfl (.bool (!y9)) (by kernel_rfl) fun a hE => ?_
      obtain rfl := Option.some.inj h7
      exact st_nil (n_then ⟨hE.sel ⟨rfl, trivial⟩, hS⟩)
    · have hE := hE.bool (t := 46) rfl hb
      have h7 := if_f h7 hb
      refine st_not hE rfl 47 rfl rfl fun a hE => ?_
      refine st_not hE rfl 48 rfl rfl fun a hE => ?_
      refine st_not hE rfl 49 rfl rfl fun a hE => ?_
      refine st_pure hE rfl 50 rfl rfl (.bool false) (by kernel_rfl) fun a hE => ?_
      obtain rfl := Option.some.inj h7
      exact st_nil (n_then ⟨hE.sel ⟨rfl, trivial⟩, hS⟩)
  rintro a w ⟨hE, hS⟩
  refine st_pure hE rfl 0 rfl rfl (.bool y7) (by kernel_rfl) fun a hE => ?_
  refine st_nil ?_
  refine n_then ?_
  refine wp_ret ?_
  obtain rfl := Option.some.inj hF
  exact out (rs := [.tmp 0]) (vs := [.bool y7]) rfl hE hS (.cons (.tmp rfl) .nil) ⟨rfl, hS.pick [] rfl rfl⟩
/-- filespace/filespacelaw07.StatChecks -/
theorem W_law07_StatChecks (x0 : api_Dir) (r : Bool) (hF : law07_StatChecks x0 = some r) (w0 : World)  : Ret Try.prog 8 #[.agg (api_Dir.enc x0).toArray] w0 fun v w => v = .bool r ∧ Sep [] w0 w [] := by
  refine enter Try.func8 rfl rfl rfl fun a hE => ?_
  have hS := Sep.start [] w0
  unfold law07_StatChecks at hF
  refine wp_seq ?_
  refine r_list ?_
  refine go_box hE hS rfl 1 rfl rfl 27 (api_Dir.enc x0) (fun _ => by kernel_rfl) fun a w b1 hx hE hS => ?_
  refine st_pure hE rfl 2 rfl rfl (.bool false) (by kernel_rfl) fun a hE => ?_
  refine st_nil ?_
  refine n_then ?_
  refine wp_seq ?_
  refine wp_seq ?_
  refine r_list ?_
  refine st_run hE rfl 3 rfl rfl (.agg (api_Dir.enc x0).toArray) (ld_box hE hS 0 rfl rfl rfl (by kernel_rfl)) fun a hE => ?_
  obtain ⟨y1, h1, hF⟩ := bind_some hF
  refine go_call hE rfl 4 rfl rfl 27 _ (by kernel_rfl) (W_law07_short x0 _ h1 _ ) fun a v w hR hE => ?_
  obtain ⟨rfl, hq⟩ := hR
  have hS := hS.call hq rfl
  refine st_pure hE rfl 5 rfl rfl (.bool (!y1)) (by kernel_rfl) fun a hE => ?_
  refine st_nil ?_
  refine n_then ?_
  rcases Bool.eq_false_or_eq_true (!y1) with hb | hb
  · have hF := if_t hF hb
    refine c_true hE rfl hb ?_
    refine wp_seq ?_
    refine r_list ?_
    obtain ⟨y2, h2, hF⟩ := bind_some hF
    refine go_call hE rfl 6 rfl rfl 28 _ (by kernel_rfl) (W_law07_awake  _ h2 _ ) fun a v w hR hE => ?_
    obtain ⟨rfl, hq⟩ := hR
    have hS := hS.call hq rfl
    refine st_pure hE rfl 2 rfl rfl (.bool y2) (by kernel_rfl) fun a hE => ?_
    refine st_nil ?_
    refine n_then ?_
    refine wp_ret ?_
    obtain rfl := Option.some.inj hF
    refine r_then ?_
    exact out (rs := [.tmp 2]) (vs := [.bool y2]) rfl hE hS (.cons (.tmp rfl) .nil) ⟨rfl, hS.pick [] rfl rfl⟩
  have hF := if_f hF hb
  refine c_false hE rfl hb ?_
  refine wp_skip ?_
  refine n_then ?_
  refine wp_seq ?_
  refine r_mix [] [(0, false), (1, false), (2, false), (3, false), (4, false), (5, false), (6, false), (7, false), (8, false)] rfl (by kernel_rfl) ?_
  have hW := hS
  have hX := hS.now
  refine mx_run hE rfl rfl 7 rfl rfl (.agg (api_Dir.enc x0).toArray) (fun w hx => ld_box hE (hW.ext hx) 0 rfl rfl rfl (by kernel_rfl)) fun a hE => ?_
  obtain ⟨y3, h3, hF⟩ := bind_some hF
  refine mx_call hE rfl rfl 8 rfl rfl 29 _ (by kernel_rfl) (.int .i64 y3) (fun w hx => (W_stat_Check x0 _ h3 _ ).mono fun u w ⟨hu, hq⟩ => ⟨hu, Ext.of_sep hq⟩) fun a hE => ?_
  refine mx_run hE rfl rfl 9 rfl rfl (.agg (api_Dir.enc x0).toArray) (fun w hx => ld_box hE (hW.ext hx) 0 rfl rfl rfl (by kernel_rfl)) fun a hE => ?_
  obtain ⟨y4, h4, hF⟩ := bind_some hF
  refine mx_call hE rfl rfl 10 rfl rfl 30 _ (by kernel_rfl) (.int .i64 y4) (fun w hx => (W_ref07_Check x0 _ h4 _ ).mono fun u w ⟨hu, hq⟩ => ⟨hu, Ext.of_sep hq⟩) fun a hE => ?_
  refine mx_pure hE rfl rfl 11 rfl rfl (.bool (y3 == y4)) (by kernel_rfl) fun a hE => ?_
  refine mx_pure hE rfl rfl 12 rfl rfl (.bool (y3 == y4)) (by kernel_rfl) fun a hE => ?_
  obtain ⟨y5, h5, hF⟩ := bind_some hF
  refine mx_cut 2 (fun a => Env 15 a [(14, .bool y5)]) rfl ?_ (fun a hE => ?_)
  · rcases Bool.eq_false_or_eq_true (y3 == y4) with hb | hb
    · have hE := hE.bool (t := 12) rfl hb
      have h5 := if_t h5 hb
      obtain ⟨y6, h6, h5⟩ := bind_some h5
      refine mx_call hE rfl rfl 13 rfl rfl 28 _ (by kernel_rfl) (.bool y6) (fun w hx => (W_law07_awake  _ h6 _ ).mono fun u w ⟨hu, hq⟩ => ⟨hu, Ext.of_sep hq⟩) fun a hE => ?_
      refine mx_pure hE rfl rfl 14 rfl rfl (.bool y6) (by kernel_rfl) fun a hE => ?_
      obtain rfl := Option.some.inj h5
      exact mx_nil fun w hx => hE.sel ⟨rfl, trivial⟩
    · have hE := hE.bool (t := 12) rfl hb
      have h5 := if_f h5 hb
      refine mx_not hE rfl rfl 13 rfl rfl fun a hE => ?_
      refine mx_pure hE rfl rfl 14 rfl rfl (.bool false) (by kernel_rfl) fun a hE => ?_
      obtain rfl := Option.some.inj h5
      exact mx_nil fun w hx => hE.sel ⟨rfl, trivial⟩
  refine mx_pure hE rfl rfl 2 rfl rfl (.bool y5) (by kernel_rfl) fun a hE => ?_
  refine mx_nil fun w hx => ?_
  have hS := hS.ext hx
  refine n_then ?_
  refine wp_ret ?_
  obtain rfl := Option.some.inj hF
  exact out (rs := [.tmp 2]) (vs := [.bool y5]) rfl hE hS (.cons (.tmp rfl) .nil) ⟨rfl, hS.pick [] rfl rfl⟩
/-- filespace/filespacelaw07.StatPuts -/
theorem W_law07_StatPuts (x0 : api_Dir) (r : Bool) (hF : law07_StatPuts x0 = some r) (w0 : World)  : Ret Try.prog 9 #[.agg (api_Dir.enc x0).toArray] w0 fun v w => v = .bool r ∧ Sep [] w0 w [] := by
  refine enter Try.func9 rfl rfl rfl fun a hE => ?_
  have hS := Sep.start [] w0
  unfold law07_StatPuts at hF
  refine wp_seq ?_
  refine r_list ?_
  refine go_box hE hS rfl 1 rfl rfl 27 (api_Dir.enc x0) (fun _ => by kernel_rfl) fun a w b1 hx hE hS => ?_
  refine st_pure hE rfl 2 rfl rfl (.bool false) (by kernel_rfl) fun a hE => ?_
  refine st_nil ?_
  refine n_then ?_
  refine wp_seq ?_
  refine wp_seq ?_
  refine r_list ?_
  refine st_run hE rfl 7 rfl rfl (.agg (api_Dir.enc x0).toArray) (ld_box hE hS 0 rfl rfl rfl (by kernel_rfl)) fun a hE => ?_
  obtain ⟨y1, h1, hF⟩ := bind_some hF
  refine go_call hE rfl 8 rfl rfl 27 _ (by kernel_rfl) (W_law07_short x0 _ h1 _ ) fun a v w hR hE => ?_
  obtain ⟨rfl, hq⟩ := hR
  have hS := hS.call hq rfl
  refine st_pure hE rfl 9 rfl rfl (.bool (!y1)) (by kernel_rfl) fun a hE => ?_
  refine st_nil ?_
  refine n_then ?_
  rcases Bool.eq_false_or_eq_true (!y1) with hb | hb
  · have hF := if_t hF hb
    refine c_true hE rfl hb ?_
    refine wp_seq ?_
    refine r_list ?_
    obtain ⟨y2, h2, hF⟩ := bind_some hF
    refine go_call hE rfl 10 rfl rfl 28 _ (by kernel_rfl) (W_law07_awake  _ h2 _ ) fun a v w hR hE => ?_
    obtain ⟨rfl, hq⟩ := hR
    have hS := hS.call hq rfl
    refine st_pure hE rfl 2 rfl rfl (.bool y2) (by kernel_rfl) fun a hE => ?_
    refine st_nil ?_
    refine n_then ?_
    refine wp_ret ?_
    obtain rfl := Option.some.inj hF
    refine r_then ?_
    exact out (rs := [.tmp 2]) (vs := [.bool y2]) rfl hE hS (.cons (.tmp rfl) .nil) ⟨rfl, hS.pick [] rfl rfl⟩
  have hF := if_f hF hb
  refine c_false hE rfl hb ?_
  refine wp_skip ?_
  refine n_then ?_
  refine wp_seq ?_
  refine r_list ?_
  refine st_run hE rfl 12 rfl rfl (.agg (api_Dir.enc x0).toArray) (ld_box hE hS 0 rfl rfl rfl (by kernel_rfl)) fun a hE => ?_
  obtain ⟨y3, h3, hF⟩ := bind_some hF
  refine go_call hE rfl 13 rfl rfl 31 _ (by kernel_rfl) (W_stat_Put x0 _ h3 _ ) fun a v w hR hE => ?_
  obtain ⟨rfl, hq⟩ := hR
  have hS := hS.call hq rfl
  refine st_pure hE rfl 11 rfl rfl (.tuple #[S y3.1, .int .i64 y3.2]) (by kernel_rfl) fun a hE => ?_
  refine st_pure hE rfl 14 rfl rfl (S y3.1) (by kernel_rfl) fun a hE => ?_
  refine st_pure hE rfl 15 rfl rfl (.int .i64 y3.2) (by kernel_rfl) fun a hE => ?_
  refine st_pure hE rfl 3 rfl rfl (S y3.1) (by kernel_rfl) fun a hE => ?_
  refine st_pure hE rfl 4 rfl rfl (.int .i64 y3.2) (by kernel_rfl) fun a hE => ?_
  refine st_nil ?_
  refine n_then ?_
  refine wp_seq ?_
  refine r_list ?_
  refine st_run hE rfl 17 rfl rfl (.agg (api_Dir.enc x0).toArray) (ld_box hE hS 0 rfl rfl rfl (by kernel_rfl)) fun a hE => ?_
  obtain ⟨y4, h4, hF⟩ := bind_some hF
  refine go_call hE rfl 18 rfl rfl 32 _ (by kernel_rfl) (W_ref07_Put x0 _ h4 _ ) fun a v w hR hE => ?_
  obtain ⟨rfl, hq⟩ := hR
  have hS := hS.call hq rfl
  refine st_pure hE rfl 16 rfl rfl (.tuple #[S y4.1, .int .i64 y4.2]) (by kernel_rfl) fun a hE => ?_
  refine st_pure hE rfl 19 rfl rfl (S y4.1) (by kernel_rfl) fun a hE => ?_
  refine st_pure hE rfl 20 rfl rfl (.int .i64 y4.2) (by kernel_rfl) fun a hE => ?_
  refine st_pure hE rfl 5 rfl rfl (S y4.1) (by kernel_rfl) fun a hE => ?_
  refine st_pure hE rfl 6 rfl rfl (.int .i64 y4.2) (by kernel_rfl) fun a hE => ?_
  refine st_nil ?_
  refine n_then ?_
  refine wp_seq ?_
  refine r_list ?_
  refine st_pure hE rfl 21 rfl rfl (S y3.1) (by kernel_rfl) fun a hE => ?_
  refine st_pure hE rfl 22 rfl rfl (S y4.1) (by kernel_rfl) fun a hE => ?_
  refine st_run hE rfl 23 rfl rfl (.bool (y3.1 == y4.1)) (run_str_eql rfl (hE.eval rfl) (hE.eval rfl)) fun a hE => ?_
  refine st_pure hE rfl 24 rfl rfl (.bool (y3.1 == y4.1)) (by kernel_rfl) fun a hE => ?_
  refine st_cut 4 (fun a w => Env 32 a [(28, .bool ((y3.1 == y4.1) && (y3.2 == y4.2)))] ∧ Sep [] w0 w [.box b1 27 (api_Dir.enc x0)]) ?_ ?_
  · rcases Bool.eq_false_or_eq_true (y3.1 == y4.1) with hb | hb
    · have hE := hE.bool (t := 24) rfl hb
      refine st_pure hE rfl 25 rfl rfl (.int .i64 y3.2) (by kernel_rfl) fun a hE => ?_
      refine st_pure hE rfl 26 rfl rfl (.int .i64 y4.2) (by kernel_rfl) fun a hE => ?_
      refine st_pure hE rfl 27 rfl rfl (.bool (y3.2 == y4.2)) (by kernel_rfl) fun a hE => ?_
      refine st_pure hE rfl 28 rfl rfl (.bool (y3.2 == y4.2)) (by kernel_rfl) fun a hE => ?_
      have hE := hE.re (t := 28) rfl (congrArg Value.bool (and_t (e := (y3.2 == y4.2)) hb))
      exact st_nil (n_then ⟨hE.sel ⟨rfl, trivial⟩, hS⟩)
    · have hE := hE.bool (t := 24) rfl hb
      refine st_not hE rfl 25 rfl rfl fun a hE => ?_
      refine st_not hE rfl 26 rfl rfl fun a hE => ?_
      refine st_not hE rfl 27 rfl rfl fun a hE => ?_
      refine st_pure hE rfl 28 rfl rfl (.bool false) (by kernel_rfl) fun a hE => ?_
      have hE := hE.re (t := 28) rfl (congrArg Value.bool (and_f (e := (y3.2 == y4.2)) hb))
      exact st_nil (n_then ⟨hE.sel ⟨rfl, trivial⟩, hS⟩)
  rintro a w ⟨hE, hS⟩
  refine st_pure hE rfl 29 rfl rfl (.bool ((y3.1 == y4.1) && (y3.2 == y4.2))) (by kernel_rfl) fun a hE => ?_
  obtain ⟨y5, h5, hF⟩ := bind_some hF
  refine st_cut 2 (fun a w => Env 32 a [(31, .bool y5)] ∧ Sep [] w0 w [.box b1 27 (api_Dir.enc x0)]) ?_ ?_
  · rcases Bool.eq_false_or_eq_true ((y3.1 == y4.1) && (y3.2 == y4.2)) with hb | hb
    · have hE := hE.bool (t := 29) rfl hb
      have h5 := if_t h5 hb
      obtain ⟨y6, h6, h5⟩ := bind_some h5
      refine go_call hE rfl 30 rfl rfl 28 _ (by kernel_rfl) (W_law07_awake  _ h6 _ ) fun a v w hR hE => ?_
      obtain ⟨rfl, hq⟩ := hR
      have hS := hS.call hq rfl
      refine st_pure hE rfl 31 rfl rfl (.bool y6) (by kernel_rfl) fun a hE => ?_
      obtain rfl := Option.some.inj h5
      exact st_nil (n_then ⟨hE.sel ⟨rfl, trivial⟩, hS⟩)
    · have hE := hE.bool (t := 29) rfl hb
      have h5 := if_f h5 hb
      refine st_not hE rfl 30 rfl rfl fun a hE => ?_
      refine st_pure hE rfl 31 rfl rfl (.bool false) (by kernel_rfl) fun a hE => ?_
      obtain rfl := Option.some.inj h5
      exact st_nil (n_then ⟨hE.sel ⟨rfl, trivial⟩, hS⟩)
  rintro a w ⟨hE, hS⟩
  refine st_pure hE rfl 2 rfl rfl (.bool y5) (by kernel_rfl) fun a hE => ?_
  refine st_nil ?_
  refine n_then ?_
  refine wp_ret ?_
  obtain rfl := Option.some.inj hF
  exact out (rs := [.tmp 2]) (vs := [.bool y5]) rfl hE hS (.cons (.tmp rfl) .nil) ⟨rfl, hS.pick [] rfl rfl⟩
/-- filespace/filespaceref07.texts -/
theorem W_ref07_texts (x0 : Str) (r : Arr4_string × Bool) (hF : ref07_texts x0 = some r) (w0 : World)  : Ret Try.prog 61 #[S x0] w0 fun v w => v = .tuple #[.agg (Arr4_string.enc r.1).toArray, .bool r.2] ∧ Sep [] w0 w [] := by
  refine enter Try.func61 rfl rfl rfl fun a hE => ?_
  have hS := Sep.start [] w0
  unfold ref07_texts at hF
  refine wp_seq ?_
  refine r_list ?_
  refine go_box hE hS rfl 2 rfl rfl 78 (Arr4_string.enc (Arr4_string.mk [] [] [] [])) (fun _ => by kernel_rfl) fun a w b1 hx hE hS => ?_
  refine st_pure hE rfl 3 rfl rfl (.bool false) (by kernel_rfl) fun a hE => ?_
  refine st_nil ?_
  refine n_then ?_
  refine wp_seq ?_
  refine r_list ?_
  refine go_box hE hS rfl 4 rfl rfl 78 (Arr4_string.enc (Arr4_string.mk [] [] [] [])) (fun _ => by kernel_rfl) fun a w b2 hx hE hS => ?_
  refine st_nil ?_
  refine n_then ?_
  refine wp_seq ?_
  refine r_list ?_
  refine st_pure hE rfl 5 rfl rfl (.int .i64 0) (by kernel_rfl) fun a hE => ?_
  refine st_nil ?_
  refine n_then ?_
  refine wp_seq ?_
  refine wp_seq ?_
  refine r_list ?_
  refine st_pure hE rfl 6 rfl rfl (.int .i64 0) (by kernel_rfl) fun a hE => ?_
  refine st_nil ?_
  refine n_then ?_
  obtain ⟨o1, g1, hF⟩ := bind_some hF
  refine w_meet (fun a w => ∃ s1, o1 = .fall s1 ∧ Env 56 a [(0, S x0), (2, .pointer (some ⟨b1, 0, none⟩)), (4, .pointer (some ⟨b2, 0, none⟩)), (5, .int .i64 s1.2)] ∧ Sep [] w0 w [.box b1 78 (Arr4_string.enc (Arr4_string.mk [] [] [] [])), .box b2 78 (Arr4_string.enc s1.1)]) ?_ ?_
  · refine wp_block ?_
    refine loop_rule g1 (fun (s1 : Arr4_string × Int × Int) a w => Env 56 a [(0, S x0), (2, .pointer (some ⟨b1, 0, none⟩)), (4, .pointer (some ⟨b2, 0, none⟩)), (5, .int .i64 s1.2.1), (6, .int .i64 s1.2.2)] ∧ Sep [] w0 w [.box b1 78 (Arr4_string.enc (Arr4_string.mk [] [] [] [])), .box b2 78 (Arr4_string.enc s1.1)]) ?_ ?_
    · exact ⟨hE.sel ⟨rfl, rfl, rfl, rfl, rfl, trivial⟩, hS.pick [1, 0] rfl rfl⟩
    rintro s1 a w ⟨hE, hS⟩ st hB1 hD1
    unfold ref07_texts_L1 at hB1
    refine wp_seq ?_
    refine wp_seq ?_
    refine r_list ?_
    refine st_pure hE rfl 8 rfl rfl (.int .i64 s1.2.2) (by kernel_rfl) fun a hE => ?_
    refine st_pure hE rfl 9 rfl rfl (.bool (decide (s1.2.2 < 4))) (by kernel_rfl) fun a hE => ?_
    refine st_nil ?_
    refine n_then ?_
    rcases (Bool.eq_false_or_eq_true (decide (s1.2.2 < 4))).symm with hb | hb
    · have hB1 := if_f hB1 hb
      refine c_false hE rfl hb ?_
      refine wp_exit ?_
      refine e_then (e_then (e_in ?_))
      obtain rfl := Option.some.inj hB1
      have hd := hD1 _ rfl
      subst hd
      refine n_then ?_
      exact ⟨_, rfl, hE.sel ⟨rfl, rfl, rfl, rfl, trivial⟩, hS.pick [0, 1] rfl rfl⟩
    have hB1 := if_t hB1 hb
    refine c_true hE rfl hb ?_
    refine wp_skip ?_
    refine n_then ?_
    refine wp_seq ?_
    refine wp_block ?_
    refine wp_seq ?_
    refine wp_seq ?_
    refine r_list ?_
    refine st_pure hE rfl 12 rfl rfl (S x0) (by kernel_rfl) fun a hE => ?_
    refine st_pure hE rfl 13 rfl rfl (.int .i64 (x0.length : Int)) (by kernel_rfl) fun a hE => ?_
    refine st_pure hE rfl 14 rfl rfl (.int .i64 s1.2.1) (by kernel_rfl) fun a hE => ?_
    refine st_pure hE rfl 15 rfl rfl (.int .i64 (w64 ((x0.length : Int) - s1.2.1))) (by kernel_rfl) fun a hE => ?_
    refine st_pure hE rfl 16 rfl rfl (.bool (decide ((w64 ((x0.length : Int) - s1.2.1)) < 2))) (by kernel_rfl) fun a hE => ?_
    refine st_nil ?_
    refine n_then ?_
    rcases Bool.eq_false_or_eq_true (decide ((w64 ((x0.length : Int) - s1.2.1)) < 2)) with hb | hb
    · have hB1 := if_t hB1 hb
      refine c_true hE rfl hb ?_
      refine wp_seq ?_
      refine r_list ?_
      refine st_run hE rfl 17 rfl rfl (.agg (Arr4_string.enc s1.1).toArray) (ld_box hE hS 1 rfl rfl rfl (by kernel_rfl)) fun a hE => ?_
      refine go_set (L' := [.box b1 78 (Arr4_string.enc s1.1), .box b2 78 (Arr4_string.enc s1.1)]) hE hS rfl rfl 0 rfl rfl rfl rfl (by kernel_rfl) (by kernel_rfl) (by kernel_rfl) (Arr4_string.enc s1.1) (by kernel_rfl) rfl fun w hS => ?_
      refine st_pure hE rfl 3 rfl rfl (.bool false) (by kernel_rfl) fun a hE => ?_
      refine st_nil ?_
      refine n_then ?_
      refine wp_ret ?_
      obtain rfl := Option.some.inj hB1
      have hd := hD1 _ rfl
      subst hd
      obtain rfl := Option.some.inj hF
      refine r_then (r_in (r_then (r_then (r_in (r_then (r_then ?_))))))
      exact out (rs := [.cell 2 78, .tmp 3]) (vs := [.agg (Arr4_string.enc s1.1).toArray, .bool false]) rfl hE hS (.cons (.cell (i := 0) rfl rfl (by kernel_rfl)) (.cons (.tmp rfl) .nil)) ⟨rfl, hS.pick [] rfl rfl⟩
    have hB1 := if_f hB1 hb
    refine c_false hE rfl hb ?_
    refine wp_skip ?_
    refine n_then ?_
    refine wp_seq ?_
    refine r_mix [] [(0, false), (1, false), (2, false), (3, false), (4, false), (5, false), (6, false), (7, false), (8, false), (9, false), (10, false), (11, false)] rfl (by kernel_rfl) ?_
    have hW := hS
    have hX := hS.now
    refine mx_pure hE rfl rfl 18 rfl rfl (S x0) (by kernel_rfl) fun a hE => ?_
    refine mx_pure hE rfl rfl 19 rfl rfl (.int .i64 s1.2.1) (by kernel_rfl) fun a hE => ?_
    obtain ⟨y1, h1, hB1⟩ := bind_some hB1
    refine mx_run hE rfl rfl 20 rfl rfl (.int .u8 y1) (fun w hx => run_byteI rfl (by kernel_rfl) (hE.eval rfl) (hE.eval rfl) h1) fun a hE => ?_
    refine mx_pure hE rfl rfl 21 rfl rfl (.int .i64 (IntKind.i64.wrap y1)) (by kernel_rfl) fun a hE => ?_
    refine mx_pure hE rfl rfl 22 rfl rfl (S x0) (by kernel_rfl) fun a hE => ?_
    refine mx_pure hE rfl rfl 23 rfl rfl (.int .i64 s1.2.1) (by kernel_rfl) fun a hE => ?_
    refine mx_pure hE rfl rfl 24 rfl rfl (.int .i64 (w64 (s1.2.1 + 1))) (by kernel_rfl) fun a hE => ?_
    obtain ⟨y2, h2, hB1⟩ := bind_some hB1
    refine mx_run hE rfl rfl 25 rfl rfl (.int .u8 y2) (fun w hx => run_byteI rfl (by kernel_rfl) (hE.eval rfl) (hE.eval rfl) h2) fun a hE => ?_
    refine mx_pure hE rfl rfl 26 rfl rfl (.int .i64 (IntKind.i64.wrap y2)) (by kernel_rfl) fun a hE => ?_
    refine mx_pure hE rfl rfl 27 rfl rfl (.int .i64 (w64 (256 * (IntKind.i64.wrap y2)))) (by kernel_rfl) fun a hE => ?_
    refine mx_pure hE rfl rfl 28 rfl rfl (.int .i64 (w64 ((IntKind.i64.wrap y1) + (w64 (256 * (IntKind.i64.wrap y2)))))) (by kernel_rfl) fun a hE => ?_
    refine mx_pure hE rfl rfl 7 rfl rfl (.int .i64 (w64 ((IntKind.i64.wrap y1) + (w64 (256 * (IntKind.i64.wrap y2)))))) (by kernel_rfl) fun a hE => ?_
    refine mx_nil fun w hx => ?_
    have hS := hS.ext hx
    refine n_then ?_
    refine wp_seq ?_
    refine wp_seq ?_
    refine r_list ?_
    refine st_pure hE rfl 29 rfl rfl (S x0) (by kernel_rfl) fun a hE => ?_
    refine st_pure hE rfl 30 rfl rfl (.int .i64 (x0.length : Int)) (by kernel_rfl) fun a hE => ?_
    refine st_pure hE rfl 31 rfl rfl (.int .i64 s1.2.1) (by kernel_rfl) fun a hE => ?_
    refine st_pure hE rfl 32 rfl rfl (.int .i64 (w64 ((x0.length : Int) - s1.2.1))) (by kernel_rfl) fun a hE => ?_
    refine st_pure hE rfl 33 rfl rfl (.int .i64 (w64 ((w64 ((x0.length : Int) - s1.2.1)) - 2))) (by kernel_rfl) fun a hE => ?_
    refine st_pure hE rfl 34 rfl rfl (.int .i64 (w64 ((IntKind.i64.wrap y1) + (w64 (256 * (IntKind.i64.wrap y2)))))) (by kernel_rfl) fun a hE => ?_
    refine st_pure hE rfl 35 rfl rfl (.bool (decide ((w64 ((w64 ((x0.length : Int) - s1.2.1)) - 2)) < (w64 ((IntKind.i64.wrap y1) + (w64 (256 * (IntKind.i64.wrap y2)))))))) (by kernel_rfl) fun a hE => ?_
    refine st_nil ?_
    refine n_then ?_
    rcases Bool.eq_false_or_eq_true (decide ((w64 ((w64 ((x0.length : Int) - s1.2.1)) - 2)) < (w64 ((IntKind.i64.wrap y1) + (w64 (256 * (IntKind.i64.wrap y2))))))) with hb | hb
    · have hB1 := if_t hB1 hb
      refine c_true hE rfl hb ?_
      refine wp_seq ?_
      refine r_list ?_
      refine st_run hE rfl 36 rfl rfl (.agg (Arr4_string.enc s1.1).toArray) (ld_box hE hS 1 rfl rfl rfl (by kernel_rfl)) fun a hE => ?_
      refine go_set (L' := [.box b1 78 (Arr4_string.enc s1.1), .box b2 78 (Arr4_string.enc s1.1)]) hE hS rfl rfl 0 rfl rfl rfl rfl (by kernel_rfl) (by kernel_rfl) (by kernel_rfl) (Arr4_string.enc s1.1) (by kernel_rfl) rfl fun w hS => ?_
      refine st_pure hE rfl 3 rfl rfl (.bool false) (by kernel_rfl) fun a hE => ?_
      refine st_nil ?_
      refine n_then ?_
      refine wp_ret ?_
      obtain rfl := Option.some.inj hB1
      have hd := hD1 _ rfl
      subst hd
      obtain rfl := Option.some.inj hF
      refine r_then (r_in (r_then (r_then (r_in (r_then (r_then ?_))))))
      exact out (rs := [.cell 2 78, .tmp 3]) (vs := [.agg (Arr4_string.enc s1.1).toArray, .bool false]) rfl hE hS (.cons (.cell (i := 0) rfl rfl (by kernel_rfl)) (.cons (.tmp rfl) .nil)) ⟨rfl, hS.pick [] rfl rfl⟩
    have hB1 := if_f hB1 hb
    refine c_false hE rfl hb ?_
    refine wp_skip ?_
    refine n_then ?_
    refine wp_seq ?_
    refine r_list ?_
    refine st_pure hE rfl 37 rfl rfl (.int .i64 s1.2.2) (by kernel_rfl) fun a hE => ?_
    refine st_pure hE rfl 38 rfl rfl (S x0) (by kernel_rfl) fun a hE => ?_
    refine st_pure hE rfl 39 rfl rfl (.int .i64 s1.2.1) (by kernel_rfl) fun a hE => ?_
    refine st_pure hE rfl 40 rfl rfl (.int .i64 (w64 (s1.2.1 + 2))) (by kernel_rfl) fun a hE => ?_
    refine st_pure hE rfl 41 rfl rfl (.int .i64 s1.2.1) (by kernel_rfl) fun a hE => ?_
    refine st_pure hE rfl 42 rfl rfl (.int .i64 (w64 (s1.2.1 + 2))) (by kernel_rfl) fun a hE => ?_
    refine st_pure hE rfl 43 rfl rfl (.int .i64 (w64 ((IntKind.i64.wrap y1) + (w64 (256 * (IntKind.i64.wrap y2)))))) (by kernel_rfl) fun a hE => ?_
    refine st_pure hE rfl 44 rfl rfl (.int .i64 (w64 ((w64 (s1.2.1 + 2)) + (w64 ((IntKind.i64.wrap y1) + (w64 (256 * (IntKind.i64.wrap y2)))))))) (by kernel_rfl) fun a hE => ?_
    obtain ⟨y3, h3, hB1⟩ := bind_some hB1
    refine st_run hE rfl 45 rfl rfl (S y3) (run_str_sub (l := (some (w64 (s1.2.1 + 2)))) (h := (some (w64 ((w64 (s1.2.1 + 2)) + (w64 ((IntKind.i64.wrap y1) + (w64 (256 * (IntKind.i64.wrap y2))))))))) rfl (by kernel_rfl) (hE.eval rfl) (bnd_some (hE.eval rfl)) (bnd_some (hE.eval rfl)) h3) fun a hE => ?_
    obtain ⟨y4, h4, hB1⟩ := bind_some hB1
    refine st_run hE rfl 46 rfl rfl (.pointer (some ⟨b2, 0 + s1.2.2.toNat * 1, none⟩)) (run_indexArr (n := 4) (e := 9) (c := 1) rfl (by kernel_rfl) (by kernel_rfl) (hE.eval rfl) (hE.eval rfl) h4) fun a hE => ?_
    refine go_set (L' := [.box b1 78 (Arr4_string.enc (Arr4_string.mk [] [] [] [])), .box b2 78 (Arr4_string.enc (Arr4_string.put s1.1 s1.2.2 y3))]) hE hS rfl rfl 1 rfl rfl rfl rfl (by kernel_rfl) (Arr4_string_put s1.1 h4 y3).1 (by kernel_rfl) (Arr4_string.enc (Arr4_string.put s1.1 s1.2.2 y3)) (Arr4_string_put s1.1 h4 y3).2 rfl fun w hS => ?_
    refine st_nil ?_
    refine n_then ?_
    refine r_list ?_
    refine st_pure hE rfl 47 rfl rfl (.int .i64 s1.2.1) (by kernel_rfl) fun a hE => ?_
    refine st_pure hE rfl 48 rfl rfl (.int .i64 (w64 (s1.2.1 + 2))) (by kernel_rfl) fun a hE => ?_
    refine st_pure hE rfl 49 rfl rfl (.int .i64 (w64 ((IntKind.i64.wrap y1) + (w64 (256 * (IntKind.i64.wrap y2)))))) (by kernel_rfl) fun a hE => ?_
    refine st_pure hE rfl 50 rfl rfl (.int .i64 (w64 ((w64 (s1.2.1 + 2)) + (w64 ((IntKind.i64.wrap y1) + (w64 (256 * (IntKind.i64.wrap y2)))))))) (by kernel_rfl) fun a hE => ?_
    refine st_pure hE rfl 5 rfl rfl (.int .i64 (w64 ((w64 (s1.2.1 + 2)) + (w64 ((IntKind.i64.wrap y1) + (w64 (256 * (IntKind.i64.wrap y2)))))))) (by kernel_rfl) fun a hE => ?_
    refine st_nil ?_
    refine n_in ?_
    refine n_then ?_
    refine r_list ?_
    refine st_pure hE rfl 10 rfl rfl (.int .i64 s1.2.2) (by kernel_rfl) fun a hE => ?_
    refine st_pure hE rfl 11 rfl rfl (.int .i64 (w64 (s1.2.2 + 1))) (by kernel_rfl) fun a hE => ?_
    refine st_pure hE rfl 6 rfl rfl (.int .i64 (w64 (s1.2.2 + 1))) (by kernel_rfl) fun a hE => ?_
    refine st_nil ?_
    obtain rfl := Option.some.inj hB1
    refine n_then ?_
    exact ⟨_, rfl, hE.sel ⟨rfl, rfl, rfl, rfl, rfl, trivial⟩, hS.pick [0, 1] rfl rfl⟩
  rintro a w ⟨s1, rfl, hE, hS⟩
  replace hF := hF
  refine n_then ?_
  refine wp_seq ?_
  refine r_list ?_
  refine st_run hE rfl 51 rfl rfl (.agg (Arr4_string.enc s1.1).toArray) (ld_box hE hS 1 rfl rfl rfl (by kernel_rfl)) fun a hE => ?_
  refine st_pure hE rfl 52 rfl rfl (.int .i64 s1.2) (by kernel_rfl) fun a hE => ?_
  refine st_pure hE rfl 53 rfl rfl (S x0) (by kernel_rfl) fun a hE => ?_
  refine st_pure hE rfl 54 rfl rfl (.int .i64 (x0.length : Int)) (by kernel_rfl) fun a hE => ?_
  refine st_pure hE rfl 55 rfl rfl (.bool (s1.2 == (x0.length : Int))) (by kernel_rfl) fun a hE => ?_
  refine go_set (L' := [.box b1 78 (Arr4_string.enc s1.1), .box b2 78 (Arr4_string.enc s1.1)]) hE hS rfl rfl 0 rfl rfl rfl rfl (by kernel_rfl) (by kernel_rfl) (by kernel_rfl) (Arr4_string.enc s1.1) (by kernel_rfl) rfl fun w hS => ?_
  refine st_pure hE rfl 3 rfl rfl (.bool (s1.2 == (x0.length : Int))) (by kernel_rfl) fun a hE => ?_
  refine st_nil ?_
  refine n_then ?_
  refine wp_ret ?_
  obtain rfl := Option.some.inj hF
  exact out (rs := [.cell 2 78, .tmp 3]) (vs := [.agg (Arr4_string.enc s1.1).toArray, .bool (s1.2 == (x0.length : Int))]) rfl hE hS (.cons (.cell (i := 0) rfl rfl (by kernel_rfl)) (.cons (.tmp rfl) .nil)) ⟨rfl, hS.pick [] rfl rfl⟩
/-- filespace/filespaceref07.number -/
theorem W_ref07_number (x0 : Str) (x1 : Int) (x2 : Int) (r : Int) (hF : ref07_number x0 x1 x2 = some r) (w0 : World)  : Ret Try.prog 62 #[S x0, .int .i64 x1, .int .i64 x2] w0 fun v w => v = .int .i64 r ∧ Sep [] w0 w [] := by
  refine enter Try.func62 rfl rfl rfl fun a hE => ?_
  have hS := Sep.start [] w0
  unfold ref07_number at hF
  refine wp_seq ?_
  refine r_list ?_
  refine st_pure hE rfl 6 rfl rfl (.int .i64 0) (by kernel_rfl) fun a hE => ?_
  refine st_nil ?_
  refine n_then ?_
  refine wp_seq ?_
  refine r_list ?_
  refine st_pure hE rfl 7 rfl rfl (.int .i64 0) (by kernel_rfl) fun a hE => ?_
  refine st_pure hE rfl 8 rfl rfl (.bool true) (by kernel_rfl) fun a hE => ?_
  refine st_nil ?_
  refine n_then ?_
  refine wp_seq ?_
  refine wp_seq ?_
  refine r_list ?_
  refine st_pure hE rfl 10 rfl rfl (.int .i64 x2) (by kernel_rfl) fun a hE => ?_
  refine st_pure hE rfl 11 rfl rfl (.int .i64 (w64 (x2 - 1))) (by kernel_rfl) fun a hE => ?_
  refine st_pure hE rfl 9 rfl rfl (.int .i64 (w64 (x2 - 1))) (by kernel_rfl) fun a hE => ?_
  refine st_nil ?_
  refine n_then ?_
  obtain ⟨o1, g1, hF⟩ := bind_some hF
  refine w_meet (fun a w => Env 38 a [(7, .int .i64 o1.1), (8, .bool o1.2)] ∧ Sep [] w0 w []) ?_ ?_
  · refine wp_block ?_
    refine loop_rule g1 (fun (s1 : Int × Bool × Int) a w => Env 38 a [(0, S x0), (1, .int .i64 x1), (7, .int .i64 s1.1), (8, .bool s1.2.1), (9, .int .i64 s1.2.2)] ∧ Sep [] w0 w []) ?_ ?_
    · exact ⟨hE.sel ⟨rfl, rfl, rfl, rfl, rfl, trivial⟩, hS.pick [] rfl rfl⟩
    rintro s1 a w ⟨hE, hS⟩ st hB1 hD1
    unfold ref07_number_L1 at hB1
    refine wp_seq ?_
    refine wp_seq ?_
    refine r_list ?_
    refine st_pure hE rfl 12 rfl rfl (.int .i64 s1.2.2) (by kernel_rfl) fun a hE => ?_
    refine st_pure hE rfl 13 rfl rfl (.bool (decide (s1.2.2 ≥ 0))) (by kernel_rfl) fun a hE => ?_
    refine st_nil ?_
    refine n_then ?_
    rcases (Bool.eq_false_or_eq_true (decide (s1.2.2 ≥ 0))).symm with hb | hb
    · have hB1 := if_f hB1 hb
      refine c_false hE rfl hb ?_
      refine wp_exit ?_
      refine e_then (e_then (e_in ?_))
      obtain rfl := Option.some.inj hB1
      have hd := hD1 _ rfl
      subst hd
      refine n_then ?_
      exact ⟨hE.sel ⟨rfl, rfl, trivial⟩, hS.pick [] rfl rfl⟩
    have hB1 := if_t hB1 hb
    refine c_true hE rfl hb ?_
    refine wp_skip ?_
    refine n_then ?_
    obtain ⟨o2, g2, hB1⟩ := bind_some hB1
    refine s_meet (fun a w => Env 38 a [(0, S x0), (1, .int .i64 x1), (7, .int .i64 o2.1), (8, .bool o2.2), (9, .int .i64 s1.2.2)] ∧ Sep [] w0 w []) ?_ ?_
    · refine wp_block ?_
      refine wp_seq ?_
      refine r_list ?_
      refine st_pure hE rfl 16 rfl rfl (.bool s1.2.1) (by kernel_rfl) fun a hE => ?_
      refine st_pure hE rfl 17 rfl rfl (.bool s1.2.1) (by kernel_rfl) fun a hE => ?_
      obtain ⟨y1, h1, g2⟩ := bind_some g2
      refine st_cut 7 (fun a w => Env 38 a [(24, .bool y1), (0, S x0), (1, .int .i64 x1), (7, .int .i64 s1.1), (8, .bool s1.2.1), (9, .int .i64 s1.2.2)] ∧ Sep [] w0 w []) ?_ ?_
      · rcases Bool.eq_false_or_eq_true s1.2.1 with hb | hb
        · have hE := hE.bool (t := 17) rfl hb
          have h1 := if_t h1 hb
          refine st_pure hE rfl 18 rfl rfl (S x0) (by kernel_rfl) fun a hE => ?_
          refine st_pure hE rfl 19 rfl rfl (.int .i64 x1) (by kernel_rfl) fun a hE => ?_
          refine st_pure hE rfl 20 rfl rfl (.int .i64 s1.2.2) (by kernel_rfl) fun a hE => ?_
          refine st_pure hE rfl 21 rfl rfl (.int .i64 (w64 (x1 + s1.2.2))) (by kernel_rfl) fun a hE => ?_
          obtain ⟨y2, h2, h1⟩ := bind_some h1
          refine st_run hE rfl 22 rfl rfl (.int .u8 y2) (run_byteI rfl (by kernel_rfl) (hE.eval rfl) (hE.eval rfl) h2) fun a hE => ?_
          refine st_pure hE rfl 23 rfl rfl (.bool (y2 == 255)) (by kernel_rfl) fun a hE => ?_
          refine st_pure hE rfl 24 rfl rfl (.bool (y2 == 255)) (by kernel_rfl) fun a hE => ?_
          obtain rfl := Option.some.inj h1
          exact st_nil (n_then ⟨hE.sel ⟨rfl, rfl, rfl, rfl, rfl, rfl, trivial⟩, hS⟩)
        · have hE := hE.bool (t := 17) rfl hb
          have h1 := if_f h1 hb
          refine st_not hE rfl 18 rfl rfl fun a hE => ?_
          refine st_not hE rfl 19 rfl rfl fun a hE => ?_
          refine st_not hE rfl 20 rfl rfl fun a hE => ?_
          refine st_not hE rfl 21 rfl rfl fun a hE => ?_
          refine st_not hE rfl 22 rfl rfl fun a hE => ?_
          refine st_not hE rfl 23 rfl rfl fun a hE => ?_
          refine st_pure hE rfl 24 rfl rfl (.bool false) (by kernel_rfl) fun a hE => ?_
          obtain rfl := Option.some.inj h1
          exact st_nil (n_then ⟨hE.sel ⟨rfl, rfl, rfl, rfl, rfl, rfl, trivial⟩, hS⟩)
      rintro a w ⟨hE, hS⟩
      refine st_pure hE rfl 8 rfl rfl (.bool y1) (by kernel_rfl) fun a hE => ?_
      refine st_nil ?_
      refine n_then ?_
      refine wp_seq ?_
      refine wp_seq ?_
      refine r_list ?_
      refine st_pure hE rfl 25 rfl rfl (.int .i64 s1.1) (by kernel_rfl) fun a hE => ?_
      refine st_pure hE rfl 26 rfl rfl (.bool (decide (s1.1 ≥ 36028797018963968))) (by kernel_rfl) fun a hE => ?_
      refine st_nil ?_
      refine n_then ?_
      rcases Bool.eq_false_or_eq_true (decide (s1.1 ≥ 36028797018963968)) with hb | hb
      · have g2 := if_t g2 hb
        refine c_true hE rfl hb ?_
        refine wp_seq ?_
        refine r_list ?_
        refine st_pure hE rfl 7 rfl rfl (.int .i64 9223372036854775807) (by kernel_rfl) fun a hE => ?_
        refine st_nil ?_
        refine n_then ?_
        refine wp_exit ?_
        refine e_then (e_in ?_)
        obtain rfl := Option.some.inj g2
        refine n_then ?_
        exact ⟨hE.sel ⟨rfl, rfl, rfl, rfl, rfl, trivial⟩, hS.pick [] rfl rfl⟩
      have g2 := if_f g2 hb
      refine c_false hE rfl hb ?_
      refine wp_skip ?_
      refine n_then ?_
      refine r_list ?_
      refine st_pure hE rfl 27 rfl rfl (.int .i64 s1.1) (by kernel_rfl) fun a hE => ?_
      refine st_pure hE rfl 28 rfl rfl (.int .i64 (w64 (s1.1 * 256))) (by kernel_rfl) fun a hE => ?_
      refine st_pure hE rfl 29 rfl rfl (S x0) (by kernel_rfl) fun a hE => ?_
      refine st_pure hE rfl 30 rfl rfl (.int .i64 x1) (by kernel_rfl) fun a hE => ?_
      refine st_pure hE rfl 31 rfl rfl (.int .i64 s1.2.2) (by kernel_rfl) fun a hE => ?_
      refine st_pure hE rfl 32 rfl rfl (.int .i64 (w64 (x1 + s1.2.2))) (by kernel_rfl) fun a hE => ?_
      obtain ⟨y3, h3, g2⟩ := bind_some g2
      refine st_run hE rfl 33 rfl rfl (.int .u8 y3) (run_byteI rfl (by kernel_rfl) (hE.eval rfl) (hE.eval rfl) h3) fun a hE => ?_
      refine st_pure hE rfl 34 rfl rfl (.int .i64 (IntKind.i64.wrap y3)) (by kernel_rfl) fun a hE => ?_
      refine st_pure hE rfl 35 rfl rfl (.int .i64 (w64 ((w64 (s1.1 * 256)) + (IntKind.i64.wrap y3)))) (by kernel_rfl) fun a hE => ?_
      refine st_pure hE rfl 7 rfl rfl (.int .i64 (w64 ((w64 (s1.1 * 256)) + (IntKind.i64.wrap y3)))) (by kernel_rfl) fun a hE => ?_
      refine st_nil ?_
      refine n_in ?_
      obtain rfl := Option.some.inj g2
      refine n_then ?_
      exact ⟨hE.sel ⟨rfl, rfl, rfl, rfl, rfl, trivial⟩, hS.pick [] rfl rfl⟩
    rintro a w ⟨hE, hS⟩
    refine r_list ?_
    refine st_pure hE rfl 14 rfl rfl (.int .i64 s1.2.2) (by kernel_rfl) fun a hE => ?_
    refine st_pure hE rfl 15 rfl rfl (.int .i64 (w64 (s1.2.2 - 1))) (by kernel_rfl) fun a hE => ?_
    refine st_pure hE rfl 9 rfl rfl (.int .i64 (w64 (s1.2.2 - 1))) (by kernel_rfl) fun a hE => ?_
    refine st_nil ?_
    obtain rfl := Option.some.inj hB1
    refine n_then ?_
    exact ⟨_, rfl, hE.sel ⟨rfl, rfl, rfl, rfl, rfl, trivial⟩, hS.pick [] rfl rfl⟩
  rintro a w ⟨hE, hS⟩
  refine n_then ?_
  refine wp_seq ?_
  refine wp_seq ?_
  refine r_list ?_
  refine st_pure hE rfl 36 rfl rfl (.bool o1.2) (by kernel_rfl) fun a hE => ?_
  refine st_nil ?_
  refine n_then ?_
  rcases Bool.eq_false_or_eq_true o1.2 with hb | hb
  · have hF := if_t hF hb
    refine c_true hE rfl hb ?_
    refine wp_seq ?_
    refine r_list ?_
    refine st_pure hE rfl 6 rfl rfl (.int .i64 (-1)) (by kernel_rfl) fun a hE => ?_
    refine st_nil ?_
    refine n_then ?_
    refine wp_ret ?_
    obtain rfl := Option.some.inj hF
    refine r_then ?_
    exact out (rs := [.tmp 6]) (vs := [.int .i64 (-1)]) rfl hE hS (.cons (.tmp rfl) .nil) ⟨rfl, hS.pick [] rfl rfl⟩
  have hF := if_f hF hb
  refine c_false hE rfl hb ?_
  refine wp_skip ?_
  refine n_then ?_
  refine wp_seq ?_
  refine r_list ?_
  refine st_pure hE rfl 37 rfl rfl (.int .i64 o1.1) (by kernel_rfl) fun a hE => ?_
  refine st_pure hE rfl 6 rfl rfl (.int .i64 o1.1) (by kernel_rfl) fun a hE => ?_
  refine st_nil ?_
  refine n_then ?_
  refine wp_ret ?_
  obtain rfl := Option.some.inj hF
  exact out (rs := [.tmp 6]) (vs := [.int .i64 o1.1]) rfl hE hS (.cons (.tmp rfl) .nil) ⟨rfl, hS.pick [] rfl rfl⟩
end Go.Proofs.Ytglcohgjcjaamaa
