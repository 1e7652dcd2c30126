/-
  The walks: each Go function computes what its namesake on plain data says: printed by a program of ours (gosh.py) off the translation.
-/
import Derived.Test.YtglcohgjcjaamaaFns
import Derived.Test.YtglcohgjcjaamaaLib
namespace Go.Proofs.Ytglcohgjcjaamaa
open Go.Rt Go.RowKit

theorem api_Dir_eqIs (x y : api_Dir) : EqIs Try.prog 27 (.agg (api_Dir.enc x).toArray) (.agg (api_Dir.enc y).toArray) (decide (x = y)) := by
  refine eqIs_of 10 rfl (by kernel_rfl) (b := ((x.Type_ == y.Type_) && ((x.Dev_ == y.Dev_) && (((x.Qid_.Type_ == y.Qid_.Type_) && ((x.Qid_.Vers_ == y.Qid_.Vers_) && ((x.Qid_.Path_ == y.Qid_.Path_) && true))) && ((x.Mode_ == y.Mode_) && ((x.Atime_ == y.Atime_) && ((x.Mtime_ == y.Mtime_) && ((x.Length_ == y.Length_) && (((⟨x.Name_.toArray⟩ : ByteArray).toList == (⟨y.Name_.toArray⟩ : ByteArray).toList) && (((⟨x.Uid_.toArray⟩ : ByteArray).toList == (⟨y.Uid_.toArray⟩ : ByteArray).toList) && (((⟨x.Gid_.toArray⟩ : ByteArray).toList == (⟨y.Gid_.toArray⟩ : ByteArray).toList) && (((⟨x.Muid_.toArray⟩ : ByteArray).toList == (⟨y.Muid_.toArray⟩ : ByteArray).toList) && true)))))))))))) (by kernel_rfl) ?_
  rw [Bool.eq_iff_iff]
  simp [api_Dir_ext, api_Qid_ext]
/-- filespace/dirread.has -/
theorem W_dirread_has (x0 : Int) (x1 : Int) (r : Bool) (hF : dirread_has x0 x1 = some r) (w0 : World)  : Ret Try.prog 43 #[.int .i64 x0, .int .i64 x1] w0 fun v w => v = .bool r ∧ Sep [] w0 w [] := by
  refine enter Try.func43 rfl rfl rfl fun a hE => ?_
  have hS := Sep.start [] w0
  unfold dirread_has at hF
  refine wp_seq ?_
  refine r_list ?_
  refine st_pure hE rfl 4 rfl rfl (.bool false) (by kernel_rfl) fun a hE => ?_
  refine st_nil ?_
  refine n_then ?_
  refine wp_seq ?_
  refine r_list ?_
  refine st_pure hE rfl 5 rfl rfl (.int .i64 x0) (by kernel_rfl) fun a hE => ?_
  refine st_pure hE rfl 6 rfl rfl (.bool (decide (x0 ≥ 0))) (by kernel_rfl) fun a hE => ?_
  refine st_pure hE rfl 7 rfl rfl (.bool (decide (x0 ≥ 0))) (by kernel_rfl) fun a hE => ?_
  refine st_cut 5 (fun a w => Env 13 a [(12, .bool ((decide (x0 ≥ 0)) && ((andI .i64 x0 x1) != 0)))] ∧ Sep [] w0 w []) ?_ ?_
  · rcases Bool.eq_false_or_eq_true (decide (x0 ≥ 0)) with hb | hb
    · have hE := hE.bool (t := 7) rfl hb
      refine st_pure hE rfl 8 rfl rfl (.int .i64 x0) (by kernel_rfl) fun a hE => ?_
      refine st_pure hE rfl 9 rfl rfl (.int .i64 x1) (by kernel_rfl) fun a hE => ?_
      refine st_pure hE rfl 10 rfl rfl (.int .i64 (andI .i64 x0 x1)) (by kernel_rfl) fun a hE => ?_
      refine st_pure hE rfl 11 rfl rfl (.bool ((andI .i64 x0 x1) != 0)) (by kernel_rfl) fun a hE => ?_
      refine st_pure hE rfl 12 rfl rfl (.bool ((andI .i64 x0 x1) != 0)) (by kernel_rfl) fun a hE => ?_
      have hE := hE.re (t := 12) rfl (congrArg Value.bool (and_t (e := ((andI .i64 x0 x1) != 0)) hb))
      exact st_nil (n_then ⟨hE.sel ⟨rfl, trivial⟩, hS⟩)
    · have hE := hE.bool (t := 7) rfl hb
      refine st_not hE rfl 8 rfl rfl fun a hE => ?_
      refine st_not hE rfl 9 rfl rfl fun a hE => ?_
      refine st_not hE rfl 10 rfl rfl fun a hE => ?_
      refine st_not hE rfl 11 rfl rfl fun a hE => ?_
      refine st_pure hE rfl 12 rfl rfl (.bool false) (by kernel_rfl) fun a hE => ?_
      have hE := hE.re (t := 12) rfl (congrArg Value.bool (and_f (e := ((andI .i64 x0 x1) != 0)) hb))
      exact st_nil (n_then ⟨hE.sel ⟨rfl, trivial⟩, hS⟩)
  rintro a w ⟨hE, hS⟩
  refine st_pure hE rfl 4 rfl rfl (.bool ((decide (x0 ≥ 0)) && ((andI .i64 x0 x1) != 0))) (by kernel_rfl) fun a hE => ?_
  refine st_nil ?_
  refine n_then ?_
  refine wp_ret ?_
  obtain rfl := Option.some.inj hF
  exact out (rs := [.tmp 4]) (vs := [.bool ((decide (x0 ≥ 0)) && ((andI .i64 x0 x1) != 0))]) rfl hE hS (.cons (.tmp rfl) .nil) ⟨rfl, hS.pick [] rfl rfl⟩
/-- filespace/dirread.kind -/
theorem W_dirread_kind (x0 : Int) (r : Int) (hF : dirread_kind x0 = some r) (w0 : World)  : Ret Try.prog 42 #[.int .i64 x0] w0 fun v w => v = .int .i64 r ∧ Sep [] w0 w [] := by
  refine enter Try.func42 rfl rfl rfl fun a hE => ?_
  have hS := Sep.start [] w0
  unfold dirread_kind at hF
  refine wp_seq ?_
  refine r_list ?_
  refine st_pure hE rfl 2 rfl rfl (.int .i64 0) (by kernel_rfl) fun a hE => ?_
  refine st_nil ?_
  refine n_then ?_
  refine wp_seq ?_
  refine r_list ?_
  refine st_pure hE rfl 3 rfl rfl (.int .i64 0) (by kernel_rfl) fun a hE => ?_
  refine st_nil ?_
  refine n_then ?_
  obtain ⟨o1, g1, hF⟩ := bind_some hF
  refine s_meet (fun a w => Env 21 a [(0, .int .i64 x0), (3, .int .i64 o1)] ∧ Sep [] w0 w []) ?_ ?_
  · refine wp_seq ?_
    refine r_list ?_
    refine st_pure hE rfl 4 rfl rfl (.int .i64 x0) (by kernel_rfl) fun a hE => ?_
    obtain ⟨y1, h1, g1⟩ := bind_some g1
    refine go_call hE rfl 5 rfl rfl 43 _ (by kernel_rfl) (W_dirread_has x0 2147483648 _ h1 _ ) fun a v w hR hE => ?_
    obtain ⟨rfl, hq⟩ := hR
    have hS := hS.call hq rfl
    refine st_nil ?_
    refine n_then ?_
    rcases Bool.eq_false_or_eq_true y1 with hb | hb
    · have g1 := if_t g1 hb
      refine c_true hE rfl hb ?_
      refine r_list ?_
      refine st_pure hE rfl 6 rfl rfl (.int .i64 0) (by kernel_rfl) fun a hE => ?_
      refine st_pure hE rfl 7 rfl rfl (.int .i64 (w64 (0 + 128))) (by kernel_rfl) fun a hE => ?_
      refine st_pure hE rfl 3 rfl rfl (.int .i64 (w64 (0 + 128))) (by kernel_rfl) fun a hE => ?_
      refine st_nil ?_
      obtain rfl := Option.some.inj g1
      refine n_then ?_
      exact ⟨hE.sel ⟨rfl, rfl, trivial⟩, hS.pick [] rfl rfl⟩
    have g1 := if_f g1 hb
    refine c_false hE rfl hb ?_
    refine wp_skip ?_
    obtain rfl := Option.some.inj g1
    refine n_then ?_
    exact ⟨hE.sel ⟨rfl, rfl, trivial⟩, hS.pick [] rfl rfl⟩
  rintro a w ⟨hE, hS⟩
  obtain ⟨o2, g2, hF⟩ := bind_some hF
  refine s_meet (fun a w => Env 21 a [(0, .int .i64 x0), (3, .int .i64 o2)] ∧ Sep [] w0 w []) ?_ ?_
  · refine wp_seq ?_
    refine r_list ?_
    refine st_pure hE rfl 8 rfl rfl (.int .i64 x0) (by kernel_rfl) fun a hE => ?_
    obtain ⟨y2, h2, g2⟩ := bind_some g2
    refine go_call hE rfl 9 rfl rfl 43 _ (by kernel_rfl) (W_dirread_has x0 1073741824 _ h2 _ ) fun a v w hR hE => ?_
    obtain ⟨rfl, hq⟩ := hR
    have hS := hS.call hq rfl
    refine st_nil ?_
    refine n_then ?_
    rcases Bool.eq_false_or_eq_true y2 with hb | hb
    · have g2 := if_t g2 hb
      refine c_true hE rfl hb ?_
      refine r_list ?_
      refine st_pure hE rfl 10 rfl rfl (.int .i64 o1) (by kernel_rfl) fun a hE => ?_
      refine st_pure hE rfl 11 rfl rfl (.int .i64 (w64 (o1 + 64))) (by kernel_rfl) fun a hE => ?_
      refine st_pure hE rfl 3 rfl rfl (.int .i64 (w64 (o1 + 64))) (by kernel_rfl) fun a hE => ?_
      refine st_nil ?_
      obtain rfl := Option.some.inj g2
      refine n_then ?_
      exact ⟨hE.sel ⟨rfl, rfl, trivial⟩, hS.pick [] rfl rfl⟩
    have g2 := if_f g2 hb
    refine c_false hE rfl hb ?_
    refine wp_skip ?_
    obtain rfl := Option.some.inj g2
    refine n_then ?_
    exact ⟨hE.sel ⟨rfl, rfl, trivial⟩, hS.pick [] rfl rfl⟩
  rintro a w ⟨hE, hS⟩
  obtain ⟨o3, g3, hF⟩ := bind_some hF
  refine s_meet (fun a w => Env 21 a [(0, .int .i64 x0), (3, .int .i64 o3)] ∧ Sep [] w0 w []) ?_ ?_
  · refine wp_seq ?_
    refine r_list ?_
    refine st_pure hE rfl 12 rfl rfl (.int .i64 x0) (by kernel_rfl) fun a hE => ?_
    obtain ⟨y3, h3, g3⟩ := bind_some g3
    refine go_call hE rfl 13 rfl rfl 43 _ (by kernel_rfl) (W_dirread_has x0 536870912 _ h3 _ ) fun a v w hR hE => ?_
    obtain ⟨rfl, hq⟩ := hR
    have hS := hS.call hq rfl
    refine st_nil ?_
    refine n_then ?_
    rcases Bool.eq_false_or_eq_true y3 with hb | hb
    · have g3 := if_t g3 hb
      refine c_true hE rfl hb ?_
      refine r_list ?_
      refine st_pure hE rfl 14 rfl rfl (.int .i64 o2) (by kernel_rfl) fun a hE => ?_
      refine st_pure hE rfl 15 rfl rfl (.int .i64 (w64 (o2 + 32))) (by kernel_rfl) fun a hE => ?_
      refine st_pure hE rfl 3 rfl rfl (.int .i64 (w64 (o2 + 32))) (by kernel_rfl) fun a hE => ?_
      refine st_nil ?_
      obtain rfl := Option.some.inj g3
      refine n_then ?_
      exact ⟨hE.sel ⟨rfl, rfl, trivial⟩, hS.pick [] rfl rfl⟩
    have g3 := if_f g3 hb
    refine c_false hE rfl hb ?_
    refine wp_skip ?_
    obtain rfl := Option.some.inj g3
    refine n_then ?_
    exact ⟨hE.sel ⟨rfl, rfl, trivial⟩, hS.pick [] rfl rfl⟩
  rintro a w ⟨hE, hS⟩
  obtain ⟨o4, g4, hF⟩ := bind_some hF
  refine s_meet (fun a w => Env 21 a [(3, .int .i64 o4)] ∧ Sep [] w0 w []) ?_ ?_
  · refine wp_seq ?_
    refine r_list ?_
    refine st_pure hE rfl 16 rfl rfl (.int .i64 x0) (by kernel_rfl) fun a hE => ?_
    obtain ⟨y4, h4, g4⟩ := bind_some g4
    refine go_call hE rfl 17 rfl rfl 43 _ (by kernel_rfl) (W_dirread_has x0 134217728 _ h4 _ ) fun a v w hR hE => ?_
    obtain ⟨rfl, hq⟩ := hR
    have hS := hS.call hq rfl
    refine st_nil ?_
    refine n_then ?_
    rcases Bool.eq_false_or_eq_true y4 with hb | hb
    · have g4 := if_t g4 hb
      refine c_true hE rfl hb ?_
      refine r_list ?_
      refine st_pure hE rfl 18 rfl rfl (.int .i64 o3) (by kernel_rfl) fun a hE => ?_
      refine st_pure hE rfl 19 rfl rfl (.int .i64 (w64 (o3 + 8))) (by kernel_rfl) fun a hE => ?_
      refine st_pure hE rfl 3 rfl rfl (.int .i64 (w64 (o3 + 8))) (by kernel_rfl) fun a hE => ?_
      refine st_nil ?_
      obtain rfl := Option.some.inj g4
      refine n_then ?_
      exact ⟨hE.sel ⟨rfl, trivial⟩, hS.pick [] rfl rfl⟩
    have g4 := if_f g4 hb
    refine c_false hE rfl hb ?_
    refine wp_skip ?_
    obtain rfl := Option.some.inj g4
    refine n_then ?_
    exact ⟨hE.sel ⟨rfl, trivial⟩, hS.pick [] rfl rfl⟩
  rintro a w ⟨hE, hS⟩
  refine wp_seq ?_
  refine r_list ?_
  refine st_pure hE rfl 20 rfl rfl (.int .i64 o4) (by kernel_rfl) fun a hE => ?_
  refine st_pure hE rfl 2 rfl rfl (.int .i64 o4) (by kernel_rfl) fun a hE => ?_
  refine st_nil ?_
  refine n_then ?_
  refine wp_ret ?_
  obtain rfl := Option.some.inj hF
  exact out (rs := [.tmp 2]) (vs := [.int .i64 o4]) rfl hE hS (.cons (.tmp rfl) .nil) ⟨rfl, hS.pick [] rfl rfl⟩
/-- filespace/dirread.Stat -/
theorem W_dirread_Stat (x0 : api_Node) (x1 : Int) (r : api_Dir) (hF : dirread_Stat x0 x1 = some r) (w0 : World)  : Ret Try.prog 16 #[.agg (api_Node.enc x0).toArray, .int .i64 x1] w0 fun v w => v = .agg (api_Dir.enc r).toArray ∧ Sep [] w0 w [] := by
  refine enter Try.func16 rfl rfl rfl fun a hE => ?_
  have hS := Sep.start [] w0
  unfold dirread_Stat at hF
  refine wp_seq ?_
  refine r_list ?_
  refine go_box hE hS rfl 2 rfl rfl 23 (api_Node.enc x0) (fun _ => by kernel_rfl) fun a w b1 hx hE hS => ?_
  refine go_box hE hS rfl 4 rfl rfl 27 (api_Dir.enc (api_Dir.mk 0 0 (api_Qid.mk 0 0 0) 0 0 0 0 [] [] [] [])) (fun _ => by kernel_rfl) fun a w b2 hx hE hS => ?_
  refine st_nil ?_
  refine n_then ?_
  refine wp_seq ?_
  refine r_mix [25] [(0, false), (1, false), (2, false), (3, false), (4, false), (5, false), (6, false), (7, false), (8, false), (9, false), (10, false), (11, false), (12, false), (13, false), (14, false), (15, false), (16, false), (17, false), (18, false), (19, false), (20, false), (21, false), (22, false), (23, false), (24, true), (25, true)] rfl (by kernel_rfl) ?_
  have hW := hS
  have hX := hS.now
  refine mx_pure hE rfl rfl 6 rfl rfl (.int .i64 x1) (by kernel_rfl) fun a hE => ?_
  refine mx_pure hE rfl rfl 7 rfl rfl (.pointer (some ⟨b1, 4, none⟩)) (by kernel_rfl) fun a hE => ?_
  refine mx_run hE rfl rfl 8 rfl rfl (.int .i64 x0.Mode_) (fun w hx => ld_box hE (hW.ext hx) 1 rfl rfl rfl (by kernel_rfl)) fun a hE => ?_
  obtain ⟨y1, h1, hF⟩ := bind_some hF
  refine mx_call hE rfl rfl 9 rfl rfl 42 _ (by kernel_rfl) (.int .i64 y1) (fun w hx => (W_dirread_kind x0.Mode_ _ h1 _ ).mono fun u w ⟨hu, hq⟩ => ⟨hu, Ext.of_sep hq⟩) fun a hE => ?_
  refine mx_pure hE rfl rfl 10 rfl rfl (.pointer (some ⟨b1, 2, none⟩)) (by kernel_rfl) fun a hE => ?_
  refine mx_run hE rfl rfl 11 rfl rfl (.int .i64 x0.Vers_) (fun w hx => ld_box hE (hW.ext hx) 1 rfl rfl rfl (by kernel_rfl)) fun a hE => ?_
  refine mx_pure hE rfl rfl 12 rfl rfl (.pointer (some ⟨b1, 0, none⟩)) (by kernel_rfl) fun a hE => ?_
  refine mx_run hE rfl rfl 13 rfl rfl (.int .i64 x0.Id_) (fun w hx => ld_box hE (hW.ext hx) 1 rfl rfl rfl (by kernel_rfl)) fun a hE => ?_
  refine mx_pure hE rfl rfl 14 rfl rfl (.agg (api_Qid.enc (api_Qid.mk y1 x0.Vers_ x0.Id_)).toArray) (by kernel_rfl) fun a hE => ?_
  refine mx_pure hE rfl rfl 15 rfl rfl (.pointer (some ⟨b1, 4, none⟩)) (by kernel_rfl) fun a hE => ?_
  refine mx_run hE rfl rfl 16 rfl rfl (.int .i64 x0.Mode_) (fun w hx => ld_box hE (hW.ext hx) 1 rfl rfl rfl (by kernel_rfl)) fun a hE => ?_
  refine mx_pure hE rfl rfl 17 rfl rfl (.pointer (some ⟨b1, 8, none⟩)) (by kernel_rfl) fun a hE => ?_
  refine mx_run hE rfl rfl 18 rfl rfl (.int .i64 x0.Atime_) (fun w hx => ld_box hE (hW.ext hx) 1 rfl rfl rfl (by kernel_rfl)) fun a hE => ?_
  refine mx_pure hE rfl rfl 19 rfl rfl (.pointer (some ⟨b1, 9, none⟩)) (by kernel_rfl) fun a hE => ?_
  refine mx_run hE rfl rfl 20 rfl rfl (.int .i64 x0.Mtime_) (fun w hx => ld_box hE (hW.ext hx) 1 rfl rfl rfl (by kernel_rfl)) fun a hE => ?_
  refine mx_pure hE rfl rfl 21 rfl rfl (.pointer (some ⟨b1, 3, none⟩)) (by kernel_rfl) fun a hE => ?_
  refine mx_run hE rfl rfl 22 rfl rfl (S x0.Name_) (fun w hx => ld_box hE (hW.ext hx) 1 rfl rfl rfl (by kernel_rfl)) fun a hE => ?_
  refine mx_pure hE rfl rfl 23 rfl rfl (.pointer (some ⟨b1, 5, none⟩)) (by kernel_rfl) fun a hE => ?_
  refine mx_run hE rfl rfl 24 rfl rfl (S x0.Uid_) (fun w hx => ld_box hE (hW.ext hx) 1 rfl rfl rfl (by kernel_rfl)) fun a hE => ?_
  refine mx_pure hE rfl rfl 25 rfl rfl (.pointer (some ⟨b1, 6, none⟩)) (by kernel_rfl) fun a hE => ?_
  refine mx_run hE rfl rfl 26 rfl rfl (S x0.Gid_) (fun w hx => ld_box hE (hW.ext hx) 1 rfl rfl rfl (by kernel_rfl)) fun a hE => ?_
  refine mx_pure hE rfl rfl 27 rfl rfl (.pointer (some ⟨b1, 7, none⟩)) (by kernel_rfl) fun a hE => ?_
  refine mx_run hE rfl rfl 28 rfl rfl (S x0.Muid_) (fun w hx => ld_box hE (hW.ext hx) 1 rfl rfl rfl (by kernel_rfl)) fun a hE => ?_
  refine mx_pure hE rfl rfl 29 rfl rfl (.agg (api_Dir.enc (api_Dir.mk 1 x1 (api_Qid.mk y1 x0.Vers_ x0.Id_) x0.Mode_ x0.Atime_ x0.Mtime_ 0 x0.Name_ x0.Uid_ x0.Gid_ x0.Muid_)).toArray) (by kernel_rfl) fun a hE => ?_
  refine mx_loud rfl fun w hx => ?_
  have hS := hS.ext hx
  have hX := hX.trans hx
  refine go_box hE hS rfl 5 rfl rfl 27 (api_Dir.enc (api_Dir.mk 0 0 (api_Qid.mk 0 0 0) 0 0 0 0 [] [] [] [])) (fun _ => by kernel_rfl) fun a w b3 hx hE hS => ?_
  have hX := hX.trans hx
  refine st_nil (n_then ⟨fun _ => hX, ?_⟩)
  refine mx_loud rfl fun w hx => ?_
  have hS := hS.ext hx
  refine go_set (L' := [.box b3 27 (api_Dir.enc (api_Dir.mk 1 x1 (api_Qid.mk y1 x0.Vers_ x0.Id_) x0.Mode_ x0.Atime_ x0.Mtime_ 0 x0.Name_ x0.Uid_ x0.Gid_ x0.Muid_)), .box b2 27 (api_Dir.enc (api_Dir.mk 0 0 (api_Qid.mk 0 0 0) 0 0 0 0 [] [] [] [])), .box b1 23 (api_Node.enc x0)]) hE hS rfl rfl 0 rfl rfl rfl rfl (by kernel_rfl) (by kernel_rfl) (by kernel_rfl) (api_Dir.enc (api_Dir.mk 1 x1 (api_Qid.mk y1 x0.Vers_ x0.Id_) x0.Mode_ x0.Atime_ x0.Mtime_ 0 x0.Name_ x0.Uid_ x0.Gid_ x0.Muid_)) (by kernel_rfl) rfl fun w hS => ?_
  refine st_nil (n_then ⟨fun h => absurd h (by decide), ?_⟩)
  refine mx_nil fun w hx => ?_
  have hS := hS.ext hx
  refine n_then ?_
  obtain ⟨o1, g1, hF⟩ := bind_some hF
  refine s_meet (fun a w => Env 39 a [(4, .pointer (some ⟨b2, 0, none⟩)), (5, .pointer (some ⟨b3, 0, none⟩))] ∧ Sep [] w0 w [.box b2 27 (api_Dir.enc (api_Dir.mk 0 0 (api_Qid.mk 0 0 0) 0 0 0 0 [] [] [] [])), .box b3 27 (api_Dir.enc o1)]) ?_ ?_
  · refine wp_seq ?_
    refine r_list ?_
    refine st_pure hE rfl 30 rfl rfl (.pointer (some ⟨b1, 4, none⟩)) (by kernel_rfl) fun a hE => ?_
    refine st_run hE rfl 31 rfl rfl (.int .i64 x0.Mode_) (ld_box hE hS 2 rfl rfl rfl (by kernel_rfl)) fun a hE => ?_
    obtain ⟨y2, h2, g1⟩ := bind_some g1
    refine go_call hE rfl 32 rfl rfl 43 _ (by kernel_rfl) (W_dirread_has x0.Mode_ 2147483648 _ h2 _ ) fun a v w hR hE => ?_
    obtain ⟨rfl, hq⟩ := hR
    have hS := hS.call hq rfl
    refine st_pure hE rfl 33 rfl rfl (.bool (!y2)) (by kernel_rfl) fun a hE => ?_
    refine st_nil ?_
    refine n_then ?_
    rcases Bool.eq_false_or_eq_true (!y2) with hb | hb
    · have g1 := if_t g1 hb
      refine c_true hE rfl hb ?_
      refine r_list ?_
      refine st_pure hE rfl 34 rfl rfl (.pointer (some ⟨b1, 10, none⟩)) (by kernel_rfl) fun a hE => ?_
      refine st_run hE rfl 35 rfl rfl (S x0.Data_) (ld_box hE hS 2 rfl rfl rfl (by kernel_rfl)) fun a hE => ?_
      refine st_pure hE rfl 36 rfl rfl (.int .i64 (x0.Data_.length : Int)) (by kernel_rfl) fun a hE => ?_
      refine st_pure hE rfl 37 rfl rfl (.pointer (some ⟨b3, 8, none⟩)) (by kernel_rfl) fun a hE => ?_
      refine go_set (L' := [.box b3 27 (api_Dir.enc (api_Dir.mk 1 x1 (api_Qid.mk y1 x0.Vers_ x0.Id_) x0.Mode_ x0.Atime_ x0.Mtime_ (x0.Data_.length : Int) x0.Name_ x0.Uid_ x0.Gid_ x0.Muid_)), .box b2 27 (api_Dir.enc (api_Dir.mk 0 0 (api_Qid.mk 0 0 0) 0 0 0 0 [] [] [] [])), .box b1 23 (api_Node.enc x0)]) hE hS rfl rfl 0 rfl rfl rfl rfl (by kernel_rfl) (by kernel_rfl) (by kernel_rfl) (api_Dir.enc (api_Dir.mk 1 x1 (api_Qid.mk y1 x0.Vers_ x0.Id_) x0.Mode_ x0.Atime_ x0.Mtime_ (x0.Data_.length : Int) x0.Name_ x0.Uid_ x0.Gid_ x0.Muid_)) (by kernel_rfl) rfl fun w hS => ?_
      refine st_nil ?_
      obtain rfl := Option.some.inj g1
      refine n_then ?_
      exact ⟨hE.sel ⟨rfl, rfl, trivial⟩, hS.pick [1, 0] rfl rfl⟩
    have g1 := if_f g1 hb
    refine c_false hE rfl hb ?_
    refine wp_skip ?_
    obtain rfl := Option.some.inj g1
    refine n_then ?_
    exact ⟨hE.sel ⟨rfl, rfl, trivial⟩, hS.pick [1, 0] rfl rfl⟩
  rintro a w ⟨hE, hS⟩
  refine wp_seq ?_
  refine r_list ?_
  refine st_run hE rfl 38 rfl rfl (.agg (api_Dir.enc o1).toArray) (ld_box hE hS 1 rfl rfl rfl (by kernel_rfl)) fun a hE => ?_
  refine go_set (L' := [.box b2 27 (api_Dir.enc o1), .box b3 27 (api_Dir.enc o1)]) hE hS rfl rfl 0 rfl rfl rfl rfl (by kernel_rfl) (by kernel_rfl) (by kernel_rfl) (api_Dir.enc o1) (by kernel_rfl) rfl fun w hS => ?_
  refine st_nil ?_
  refine n_then ?_
  refine wp_ret ?_
  obtain rfl := Option.some.inj hF
  exact out (rs := [.cell 4 27]) (vs := [.agg (api_Dir.enc o1).toArray]) rfl hE hS (.cons (.cell (i := 0) rfl rfl (by kernel_rfl)) .nil) ⟨rfl, hS.pick [] rfl rfl⟩
/-- filespace/filespaceref11.has -/
theorem W_ref11_has (x0 : Int) (x1 : Int) (r : Bool) (hF : ref11_has x0 x1 = some r) (w0 : World)  : Ret Try.prog 44 #[.int .i64 x0, .int .i64 x1] w0 fun v w => v = .bool r ∧ Sep [] w0 w [] := by
  refine enter Try.func44 rfl rfl rfl fun a hE => ?_
  have hS := Sep.start [] w0
  unfold ref11_has at hF
  refine wp_seq ?_
  refine r_list ?_
  refine st_pure hE rfl 4 rfl rfl (.bool false) (by kernel_rfl) fun a hE => ?_
  refine st_nil ?_
  refine n_then ?_
  refine wp_seq ?_
  refine r_list ?_
  refine st_pure hE rfl 5 rfl rfl (.int .i64 x0) (by kernel_rfl) fun a hE => ?_
  refine st_pure hE rfl 6 rfl rfl (.bool (decide (x0 ≥ 0))) (by kernel_rfl) fun a hE => ?_
  refine st_pure hE rfl 7 rfl rfl (.bool (decide (x0 ≥ 0))) (by kernel_rfl) fun a hE => ?_
  obtain ⟨y1, h1, hF⟩ := bind_some hF
  refine st_cut 6 (fun a w => Env 14 a [(13, .bool y1)] ∧ Sep [] w0 w []) ?_ ?_
  · rcases Bool.eq_false_or_eq_true (decide (x0 ≥ 0)) with hb | hb
    · have hE := hE.bool (t := 7) rfl hb
      have h1 := if_t h1 hb
      refine st_pure hE rfl 8 rfl rfl (.int .i64 x0) (by kernel_rfl) fun a hE => ?_
      refine st_pure hE rfl 9 rfl rfl (.int .i64 x1) (by kernel_rfl) fun a hE => ?_
      obtain ⟨y2, h2, h1⟩ := bind_some h1
      refine st_run hE rfl 10 rfl rfl (.int .i64 y2) (run_quo rfl (hE.eval rfl) (hE.eval rfl) h2) fun a hE => ?_
      refine st_pure hE rfl 11 rfl rfl (.int .i64 (y2.tmod 2)) (by kernel_rfl) fun a hE => ?_
      refine st_pure hE rfl 12 rfl rfl (.bool ((y2.tmod 2) == 1)) (by kernel_rfl) fun a hE => ?_
      refine st_pure hE rfl 13 rfl rfl (.bool ((y2.tmod 2) == 1)) (by kernel_rfl) fun a hE => ?_
      obtain rfl := Option.some.inj h1
      exact st_nil (n_then ⟨hE.sel ⟨rfl, trivial⟩, hS⟩)
    · have hE := hE.bool (t := 7) rfl hb
      have h1 := if_f h1 hb
      refine st_not hE rfl 8 rfl rfl fun a hE => ?_
      refine st_not hE rfl 9 rfl rfl fun a hE => ?_
      refine st_not hE rfl 10 rfl rfl fun a hE => ?_
      refine st_not hE rfl 11 rfl rfl fun a hE => ?_
      refine st_not hE rfl 12 rfl rfl fun a hE => ?_
      refine st_pure hE rfl 13 rfl rfl (.bool false) (by kernel_rfl) fun a hE => ?_
      obtain rfl := Option.some.inj h1
      exact st_nil (n_then ⟨hE.sel ⟨rfl, trivial⟩, hS⟩)
  rintro a w ⟨hE, hS⟩
  refine st_pure hE rfl 4 rfl rfl (.bool y1) (by kernel_rfl) fun a hE => ?_
  refine st_nil ?_
  refine n_then ?_
  refine wp_ret ?_
  obtain rfl := Option.some.inj hF
  exact out (rs := [.tmp 4]) (vs := [.bool y1]) rfl hE hS (.cons (.tmp rfl) .nil) ⟨rfl, hS.pick [] rfl rfl⟩
/-- filespace/filespaceref11.Stat -/
theorem W_ref11_Stat (x0 : api_Node) (x1 : Int) (r : api_Dir) (hF : ref11_Stat x0 x1 = some r) (w0 : World)  : Ret Try.prog 17 #[.agg (api_Node.enc x0).toArray, .int .i64 x1] w0 fun v w => v = .agg (api_Dir.enc r).toArray ∧ Sep [] w0 w [] := by
  refine enter Try.func17 rfl rfl rfl fun a hE => ?_
  have hS := Sep.start [] w0
  unfold ref11_Stat at hF
  refine wp_seq ?_
  refine r_list ?_
  refine go_box hE hS rfl 2 rfl rfl 23 (api_Node.enc x0) (fun _ => by kernel_rfl) fun a w b1 hx hE hS => ?_
  refine go_box hE hS rfl 4 rfl rfl 27 (api_Dir.enc (api_Dir.mk 0 0 (api_Qid.mk 0 0 0) 0 0 0 0 [] [] [] [])) (fun _ => by kernel_rfl) fun a w b2 hx hE hS => ?_
  refine st_nil ?_
  refine n_then ?_
  refine wp_seq ?_
  refine r_list ?_
  refine st_pure hE rfl 5 rfl rfl (.int .i64 0) (by kernel_rfl) fun a hE => ?_
  refine st_nil ?_
  refine n_then ?_
  obtain ⟨o1, g1, hF⟩ := bind_some hF
  refine s_meet (fun a w => Env 56 a [(1, .int .i64 x1), (2, .pointer (some ⟨b1, 0, none⟩)), (4, .pointer (some ⟨b2, 0, none⟩)), (5, .int .i64 o1)] ∧ Sep [] w0 w [.box b1 23 (api_Node.enc x0), .box b2 27 (api_Dir.enc (api_Dir.mk 0 0 (api_Qid.mk 0 0 0) 0 0 0 0 [] [] [] []))]) ?_ ?_
  · refine wp_seq ?_
    refine r_list ?_
    refine st_pure hE rfl 7 rfl rfl (.pointer (some ⟨b1, 4, none⟩)) (by kernel_rfl) fun a hE => ?_
    refine st_run hE rfl 8 rfl rfl (.int .i64 x0.Mode_) (ld_box hE hS 1 rfl rfl rfl (by kernel_rfl)) fun a hE => ?_
    obtain ⟨y1, h1, g1⟩ := bind_some g1
    refine go_call hE rfl 9 rfl rfl 44 _ (by kernel_rfl) (W_ref11_has x0.Mode_ 2147483648 _ h1 _ ) fun a v w hR hE => ?_
    obtain ⟨rfl, hq⟩ := hR
    have hS := hS.call hq rfl
    refine st_nil ?_
    refine n_then ?_
    rcases Bool.eq_false_or_eq_true y1 with hb | hb
    · have g1 := if_t g1 hb
      refine c_true hE rfl hb ?_
      refine r_list ?_
      refine st_pure hE rfl 10 rfl rfl (.int .i64 0) (by kernel_rfl) fun a hE => ?_
      refine st_pure hE rfl 11 rfl rfl (.int .i64 (w64 (0 + 128))) (by kernel_rfl) fun a hE => ?_
      refine st_pure hE rfl 5 rfl rfl (.int .i64 (w64 (0 + 128))) (by kernel_rfl) fun a hE => ?_
      refine st_nil ?_
      obtain rfl := Option.some.inj g1
      refine n_then ?_
      exact ⟨hE.sel ⟨rfl, rfl, rfl, rfl, trivial⟩, hS.pick [1, 0] rfl rfl⟩
    have g1 := if_f g1 hb
    refine c_false hE rfl hb ?_
    refine wp_skip ?_
    obtain rfl := Option.some.inj g1
    refine n_then ?_
    exact ⟨hE.sel ⟨rfl, rfl, rfl, rfl, trivial⟩, hS.pick [1, 0] rfl rfl⟩
  rintro a w ⟨hE, hS⟩
  obtain ⟨o2, g2, hF⟩ := bind_some hF
  refine s_meet (fun a w => Env 56 a [(1, .int .i64 x1), (2, .pointer (some ⟨b1, 0, none⟩)), (4, .pointer (some ⟨b2, 0, none⟩)), (5, .int .i64 o2)] ∧ Sep [] w0 w [.box b1 23 (api_Node.enc x0), .box b2 27 (api_Dir.enc (api_Dir.mk 0 0 (api_Qid.mk 0 0 0) 0 0 0 0 [] [] [] []))]) ?_ ?_
  · refine wp_seq ?_
    refine r_list ?_
    refine st_pure hE rfl 12 rfl rfl (.pointer (some ⟨b1, 4, none⟩)) (by kernel_rfl) fun a hE => ?_
    refine st_run hE rfl 13 rfl rfl (.int .i64 x0.Mode_) (ld_box hE hS 0 rfl rfl rfl (by kernel_rfl)) fun a hE => ?_
    obtain ⟨y2, h2, g2⟩ := bind_some g2
    refine go_call hE rfl 14 rfl rfl 44 _ (by kernel_rfl) (W_ref11_has x0.Mode_ 1073741824 _ h2 _ ) fun a v w hR hE => ?_
    obtain ⟨rfl, hq⟩ := hR
    have hS := hS.call hq rfl
    refine st_nil ?_
    refine n_then ?_
    rcases Bool.eq_false_or_eq_true y2 with hb | hb
    · have g2 := if_t g2 hb
      refine c_true hE rfl hb ?_
      refine r_list ?_
      refine st_pure hE rfl 15 rfl rfl (.int .i64 o1) (by kernel_rfl) fun a hE => ?_
      refine st_pure hE rfl 16 rfl rfl (.int .i64 (w64 (o1 + 64))) (by kernel_rfl) fun a hE => ?_
      refine st_pure hE rfl 5 rfl rfl (.int .i64 (w64 (o1 + 64))) (by kernel_rfl) fun a hE => ?_
      refine st_nil ?_
      obtain rfl := Option.some.inj g2
      refine n_then ?_
      exact ⟨hE.sel ⟨rfl, rfl, rfl, rfl, trivial⟩, hS.pick [0, 1] rfl rfl⟩
    have g2 := if_f g2 hb
    refine c_false hE rfl hb ?_
    refine wp_skip ?_
    obtain rfl := Option.some.inj g2
    refine n_then ?_
    exact ⟨hE.sel ⟨rfl, rfl, rfl, rfl, trivial⟩, hS.pick [0, 1] rfl rfl⟩
  rintro a w ⟨hE, hS⟩
  obtain ⟨o3, g3, hF⟩ := bind_some hF
  refine s_meet (fun a w => Env 56 a [(1, .int .i64 x1), (2, .pointer (some ⟨b1, 0, none⟩)), (4, .pointer (some ⟨b2, 0, none⟩)), (5, .int .i64 o3)] ∧ Sep [] w0 w [.box b1 23 (api_Node.enc x0), .box b2 27 (api_Dir.enc (api_Dir.mk 0 0 (api_Qid.mk 0 0 0) 0 0 0 0 [] [] [] []))]) ?_ ?_
  · refine wp_seq ?_
    refine r_list ?_
    refine st_pure hE rfl 17 rfl rfl (.pointer (some ⟨b1, 4, none⟩)) (by kernel_rfl) fun a hE => ?_
    refine st_run hE rfl 18 rfl rfl (.int .i64 x0.Mode_) (ld_box hE hS 0 rfl rfl rfl (by kernel_rfl)) fun a hE => ?_
    obtain ⟨y3, h3, g3⟩ := bind_some g3
    refine go_call hE rfl 19 rfl rfl 44 _ (by kernel_rfl) (W_ref11_has x0.Mode_ 536870912 _ h3 _ ) fun a v w hR hE => ?_
    obtain ⟨rfl, hq⟩ := hR
    have hS := hS.call hq rfl
    refine st_nil ?_
    refine n_then ?_
    rcases Bool.eq_false_or_eq_true y3 with hb | hb
    · have g3 := if_t g3 hb
      refine c_true hE rfl hb ?_
      refine r_list ?_
      refine st_pure hE rfl 20 rfl rfl (.int .i64 o2) (by kernel_rfl) fun a hE => ?_
      refine st_pure hE rfl 21 rfl rfl (.int .i64 (w64 (o2 + 32))) (by kernel_rfl) fun a hE => ?_
      refine st_pure hE rfl 5 rfl rfl (.int .i64 (w64 (o2 + 32))) (by kernel_rfl) fun a hE => ?_
      refine st_nil ?_
      obtain rfl := Option.some.inj g3
      refine n_then ?_
      exact ⟨hE.sel ⟨rfl, rfl, rfl, rfl, trivial⟩, hS.pick [0, 1] rfl rfl⟩
    have g3 := if_f g3 hb
    refine c_false hE rfl hb ?_
    refine wp_skip ?_
    obtain rfl := Option.some.inj g3
    refine n_then ?_
    exact ⟨hE.sel ⟨rfl, rfl, rfl, rfl, trivial⟩, hS.pick [0, 1] rfl rfl⟩
  rintro a w ⟨hE, hS⟩
  obtain ⟨o4, g4, hF⟩ := bind_some hF
  refine s_meet (fun a w => Env 56 a [(1, .int .i64 x1), (2, .pointer (some ⟨b1, 0, none⟩)), (4, .pointer (some ⟨b2, 0, none⟩)), (5, .int .i64 o4)] ∧ Sep [] w0 w [.box b1 23 (api_Node.enc x0), .box b2 27 (api_Dir.enc (api_Dir.mk 0 0 (api_Qid.mk 0 0 0) 0 0 0 0 [] [] [] []))]) ?_ ?_
  · refine wp_seq ?_
    refine r_list ?_
    refine st_pure hE rfl 22 rfl rfl (.pointer (some ⟨b1, 4, none⟩)) (by kernel_rfl) fun a hE => ?_
    refine st_run hE rfl 23 rfl rfl (.int .i64 x0.Mode_) (ld_box hE hS 0 rfl rfl rfl (by kernel_rfl)) fun a hE => ?_
    obtain ⟨y4, h4, g4⟩ := bind_some g4
    refine go_call hE rfl 24 rfl rfl 44 _ (by kernel_rfl) (W_ref11_has x0.Mode_ 134217728 _ h4 _ ) fun a v w hR hE => ?_
    obtain ⟨rfl, hq⟩ := hR
    have hS := hS.call hq rfl
    refine st_nil ?_
    refine n_then ?_
    rcases Bool.eq_false_or_eq_true y4 with hb | hb
    · have g4 := if_t g4 hb
      refine c_true hE rfl hb ?_
      refine r_list ?_
      refine st_pure hE rfl 25 rfl rfl (.int .i64 o3) (by kernel_rfl) fun a hE => ?_
      refine st_pure hE rfl 26 rfl rfl (.int .i64 (w64 (o3 + 8))) (by kernel_rfl) fun a hE => ?_
      refine st_pure hE rfl 5 rfl rfl (.int .i64 (w64 (o3 + 8))) (by kernel_rfl) fun a hE => ?_
      refine st_nil ?_
      obtain rfl := Option.some.inj g4
      refine n_then ?_
      exact ⟨hE.sel ⟨rfl, rfl, rfl, rfl, trivial⟩, hS.pick [0, 1] rfl rfl⟩
    have g4 := if_f g4 hb
    refine c_false hE rfl hb ?_
    refine wp_skip ?_
    obtain rfl := Option.some.inj g4
    refine n_then ?_
    exact ⟨hE.sel ⟨rfl, rfl, rfl, rfl, trivial⟩, hS.pick [0, 1] rfl rfl⟩
  rintro a w ⟨hE, hS⟩
  refine wp_seq ?_
  refine r_list ?_
  refine st_pure hE rfl 27 rfl rfl (.pointer (some ⟨b1, 10, none⟩)) (by kernel_rfl) fun a hE => ?_
  refine st_run hE rfl 28 rfl rfl (S x0.Data_) (ld_box hE hS 0 rfl rfl rfl (by kernel_rfl)) fun a hE => ?_
  refine st_pure hE rfl 29 rfl rfl (.int .i64 (x0.Data_.length : Int)) (by kernel_rfl) fun a hE => ?_
  refine st_pure hE rfl 6 rfl rfl (.int .i64 (x0.Data_.length : Int)) (by kernel_rfl) fun a hE => ?_
  refine st_nil ?_
  refine n_then ?_
  obtain ⟨o5, g5, hF⟩ := bind_some hF
  refine s_meet (fun a w => Env 56 a [(1, .int .i64 x1), (2, .pointer (some ⟨b1, 0, none⟩)), (4, .pointer (some ⟨b2, 0, none⟩)), (5, .int .i64 o4), (6, .int .i64 o5)] ∧ Sep [] w0 w [.box b1 23 (api_Node.enc x0), .box b2 27 (api_Dir.enc (api_Dir.mk 0 0 (api_Qid.mk 0 0 0) 0 0 0 0 [] [] [] []))]) ?_ ?_
  · refine wp_seq ?_
    refine r_list ?_
    refine st_pure hE rfl 30 rfl rfl (.pointer (some ⟨b1, 4, none⟩)) (by kernel_rfl) fun a hE => ?_
    refine st_run hE rfl 31 rfl rfl (.int .i64 x0.Mode_) (ld_box hE hS 0 rfl rfl rfl (by kernel_rfl)) fun a hE => ?_
    obtain ⟨y5, h5, g5⟩ := bind_some g5
    refine go_call hE rfl 32 rfl rfl 44 _ (by kernel_rfl) (W_ref11_has x0.Mode_ 2147483648 _ h5 _ ) fun a v w hR hE => ?_
    obtain ⟨rfl, hq⟩ := hR
    have hS := hS.call hq rfl
    refine st_nil ?_
    refine n_then ?_
    rcases Bool.eq_false_or_eq_true y5 with hb | hb
    · have g5 := if_t g5 hb
      refine c_true hE rfl hb ?_
      refine r_list ?_
      refine st_pure hE rfl 6 rfl rfl (.int .i64 0) (by kernel_rfl) fun a hE => ?_
      refine st_nil ?_
      obtain rfl := Option.some.inj g5
      refine n_then ?_
      exact ⟨hE.sel ⟨rfl, rfl, rfl, rfl, rfl, trivial⟩, hS.pick [0, 1] rfl rfl⟩
    have g5 := if_f g5 hb
    refine c_false hE rfl hb ?_
    refine wp_skip ?_
    obtain rfl := Option.some.inj g5
    refine n_then ?_
    exact ⟨hE.sel ⟨rfl, rfl, rfl, rfl, rfl, trivial⟩, hS.pick [0, 1] rfl rfl⟩
  rintro a w ⟨hE, hS⟩
  refine wp_seq ?_
  refine r_list ?_
  refine st_pure hE rfl 33 rfl rfl (.int .i64 x1) (by kernel_rfl) fun a hE => ?_
  refine st_pure hE rfl 34 rfl rfl (.int .i64 o4) (by kernel_rfl) fun a hE => ?_
  refine st_pure hE rfl 35 rfl rfl (.pointer (some ⟨b1, 2, none⟩)) (by kernel_rfl) fun a hE => ?_
  refine st_run hE rfl 36 rfl rfl (.int .i64 x0.Vers_) (ld_box hE hS 0 rfl rfl rfl (by kernel_rfl)) fun a hE => ?_
  refine st_pure hE rfl 37 rfl rfl (.pointer (some ⟨b1, 0, none⟩)) (by kernel_rfl) fun a hE => ?_
  refine st_run hE rfl 38 rfl rfl (.int .i64 x0.Id_) (ld_box hE hS 0 rfl rfl rfl (by kernel_rfl)) fun a hE => ?_
  refine st_pure hE rfl 39 rfl rfl (.agg (api_Qid.enc (api_Qid.mk o4 x0.Vers_ x0.Id_)).toArray) (by kernel_rfl) fun a hE => ?_
  refine st_pure hE rfl 40 rfl rfl (.pointer (some ⟨b1, 4, none⟩)) (by kernel_rfl) fun a hE => ?_
  refine st_run hE rfl 41 rfl rfl (.int .i64 x0.Mode_) (ld_box hE hS 0 rfl rfl rfl (by kernel_rfl)) fun a hE => ?_
  refine st_pure hE rfl 42 rfl rfl (.pointer (some ⟨b1, 8, none⟩)) (by kernel_rfl) fun a hE => ?_
  refine st_run hE rfl 43 rfl rfl (.int .i64 x0.Atime_) (ld_box hE hS 0 rfl rfl rfl (by kernel_rfl)) fun a hE => ?_
  refine st_pure hE rfl 44 rfl rfl (.pointer (some ⟨b1, 9, none⟩)) (by kernel_rfl) fun a hE => ?_
  refine st_run hE rfl 45 rfl rfl (.int .i64 x0.Mtime_) (ld_box hE hS 0 rfl rfl rfl (by kernel_rfl)) fun a hE => ?_
  refine st_pure hE rfl 46 rfl rfl (.int .i64 o5) (by kernel_rfl) fun a hE => ?_
  refine st_pure hE rfl 47 rfl rfl (.pointer (some ⟨b1, 3, none⟩)) (by kernel_rfl) fun a hE => ?_
  refine st_run hE rfl 48 rfl rfl (S x0.Name_) (ld_box hE hS 0 rfl rfl rfl (by kernel_rfl)) fun a hE => ?_
  refine st_pure hE rfl 49 rfl rfl (.pointer (some ⟨b1, 5, none⟩)) (by kernel_rfl) fun a hE => ?_
  refine st_run hE rfl 50 rfl rfl (S x0.Uid_) (ld_box hE hS 0 rfl rfl rfl (by kernel_rfl)) fun a hE => ?_
  refine st_pure hE rfl 51 rfl rfl (.pointer (some ⟨b1, 6, none⟩)) (by kernel_rfl) fun a hE => ?_
  refine st_run hE rfl 52 rfl rfl (S x0.Gid_) (ld_box hE hS 0 rfl rfl rfl (by kernel_rfl)) fun a hE => ?_
  refine st_pure hE rfl 53 rfl rfl (.pointer (some ⟨b1, 7, none⟩)) (by kernel_rfl) fun a hE => ?_
  refine st_run hE rfl 54 rfl rfl (S x0.Muid_) (ld_box hE hS 0 rfl rfl rfl (by kernel_rfl)) fun a hE => ?_
  refine st_pure hE rfl 55 rfl rfl (.agg (api_Dir.enc (api_Dir.mk 1 x1 (api_Qid.mk o4 x0.Vers_ x0.Id_) x0.Mode_ x0.Atime_ x0.Mtime_ o5 x0.Name_ x0.Uid_ x0.Gid_ x0.Muid_)).toArray) (by kernel_rfl) fun a hE => ?_
  refine go_set (L' := [.box b1 23 (api_Node.enc x0), .box b2 27 (api_Dir.enc (api_Dir.mk 1 x1 (api_Qid.mk o4 x0.Vers_ x0.Id_) x0.Mode_ x0.Atime_ x0.Mtime_ o5 x0.Name_ x0.Uid_ x0.Gid_ x0.Muid_))]) hE hS rfl rfl 1 rfl rfl rfl rfl (by kernel_rfl) (by kernel_rfl) (by kernel_rfl) (api_Dir.enc (api_Dir.mk 1 x1 (api_Qid.mk o4 x0.Vers_ x0.Id_) x0.Mode_ x0.Atime_ x0.Mtime_ o5 x0.Name_ x0.Uid_ x0.Gid_ x0.Muid_)) (by kernel_rfl) rfl fun w hS => ?_
  refine st_nil ?_
  refine n_then ?_
  refine wp_ret ?_
  obtain rfl := Option.some.inj hF
  exact out (rs := [.cell 4 27]) (vs := [.agg (api_Dir.enc (api_Dir.mk 1 x1 (api_Qid.mk o4 x0.Vers_ x0.Id_) x0.Mode_ x0.Atime_ x0.Mtime_ o5 x0.Name_ x0.Uid_ x0.Gid_ x0.Muid_)).toArray]) rfl hE hS (.cons (.cell (i := 1) rfl rfl (by kernel_rfl)) .nil) ⟨rfl, hS.pick [] rfl rfl⟩
/-- filespace/filespacelaw11.node -/
theorem W_law11_node  (r : api_Node) (hF : law11_node = some r) (w0 : World)  : Ret Try.prog 45 #[] w0 fun v w => v = .agg (api_Node.enc r).toArray ∧ Sep [] w0 w [] := by
  refine enter Try.func45 rfl rfl rfl fun a hE => ?_
  have hS := Sep.start [] w0
  unfold law11_node at hF
  refine wp_seq ?_
  refine r_list ?_
  refine go_box hE hS rfl 0 rfl rfl 23 (api_Node.enc (api_Node.mk 0 0 0 [] 0 [] [] [] 0 0 [])) (fun _ => by kernel_rfl) fun a w b1 hx hE hS => ?_
  refine st_nil ?_
  refine n_then ?_
  refine wp_seq ?_
  refine r_list ?_
  refine st_pure hE rfl 1 rfl rfl (.agg (api_Node.enc (api_Node.mk 3 1 2 [102] 420 [97, 110, 110] [97, 100, 109] [98, 111, 98] 5 6 [97, 98, 99])).toArray) (by kernel_rfl) fun a hE => ?_
  refine go_set (L' := [.box b1 23 (api_Node.enc (api_Node.mk 3 1 2 [102] 420 [97, 110, 110] [97, 100, 109] [98, 111, 98] 5 6 [97, 98, 99]))]) hE hS rfl rfl 0 rfl rfl rfl rfl (by kernel_rfl) (by kernel_rfl) (by kernel_rfl) (api_Node.enc (api_Node.mk 3 1 2 [102] 420 [97, 110, 110] [97, 100, 109] [98, 111, 98] 5 6 [97, 98, 99])) (by kernel_rfl) rfl fun w hS => ?_
  refine st_nil ?_
  refine n_then ?_
  refine wp_ret ?_
  obtain rfl := Option.some.inj hF
  exact out (rs := [.cell 0 23]) (vs := [.agg (api_Node.enc (api_Node.mk 3 1 2 [102] 420 [97, 110, 110] [97, 100, 109] [98, 111, 98] 5 6 [97, 98, 99])).toArray]) rfl hE hS (.cons (.cell (i := 0) rfl rfl (by kernel_rfl)) .nil) ⟨rfl, hS.pick [] rfl rfl⟩
/-- filespace/stat.numbers -/
theorem W_stat_numbers (x0 : api_Dir) (r : (List stat_number)) (hF : stat_numbers x0 = some r) (w0 : World)  : Ret Try.prog 49 #[.agg (api_Dir.enc x0).toArray] w0 fun v w => ∃ (A0 : Option Addr) (c0 : Nat), v = .slice A0 r.length c0 ∧ Sep [] w0 w [.row 67 3 A0 r.length c0 (r.map stat_number.enc)] := by
  refine enter Try.func49 rfl rfl rfl fun a hE => ?_
  have hS := Sep.start [] w0
  unfold stat_numbers at hF
  refine wp_seq ?_
  refine r_list ?_
  refine go_box hE hS rfl 1 rfl rfl 27 (api_Dir.enc x0) (fun _ => by kernel_rfl) fun a w b1 hx hE hS => ?_
  refine st_pure hE rfl 2 rfl rfl (.slice none 0 0) (by kernel_rfl) fun a hE => ?_
  refine st_nil ?_
  refine n_then ?_
  refine wp_seq ?_
  refine r_list ?_
  refine st_pure hE rfl 3 rfl rfl (.pointer (some ⟨b1, 0, none⟩)) (by kernel_rfl) fun a hE => ?_
  refine st_run hE rfl 4 rfl rfl (.int .i64 x0.Type_) (ld_box hE hS 0 rfl rfl rfl (by kernel_rfl)) fun a hE => ?_
  refine st_pure hE rfl 5 rfl rfl (.agg (stat_number.enc (stat_number.mk x0.Type_ 2 65534)).toArray) (by kernel_rfl) fun a hE => ?_
  refine st_pure hE rfl 6 rfl rfl (.pointer (some ⟨b1, 1, none⟩)) (by kernel_rfl) fun a hE => ?_
  refine st_run hE rfl 7 rfl rfl (.int .i64 x0.Dev_) (ld_box hE hS 0 rfl rfl rfl (by kernel_rfl)) fun a hE => ?_
  refine st_pure hE rfl 8 rfl rfl (.agg (stat_number.enc (stat_number.mk x0.Dev_ 4 4294967294)).toArray) (by kernel_rfl) fun a hE => ?_
  refine st_pure hE rfl 9 rfl rfl (.pointer (some ⟨b1, 2, none⟩)) (by kernel_rfl) fun a hE => ?_
  refine st_pure hE rfl 10 rfl rfl (.pointer (some ⟨b1, 2, none⟩)) (by kernel_rfl) fun a hE => ?_
  refine st_run hE rfl 11 rfl rfl (.int .i64 x0.Qid_.Type_) (ld_box hE hS 0 rfl rfl rfl (by kernel_rfl)) fun a hE => ?_
  refine st_pure hE rfl 12 rfl rfl (.agg (stat_number.enc (stat_number.mk x0.Qid_.Type_ 1 232)).toArray) (by kernel_rfl) fun a hE => ?_
  refine st_pure hE rfl 13 rfl rfl (.pointer (some ⟨b1, 2, none⟩)) (by kernel_rfl) fun a hE => ?_
  refine st_pure hE rfl 14 rfl rfl (.pointer (some ⟨b1, 3, none⟩)) (by kernel_rfl) fun a hE => ?_
  refine st_run hE rfl 15 rfl rfl (.int .i64 x0.Qid_.Vers_) (ld_box hE hS 0 rfl rfl rfl (by kernel_rfl)) fun a hE => ?_
  refine st_pure hE rfl 16 rfl rfl (.agg (stat_number.enc (stat_number.mk x0.Qid_.Vers_ 4 2147483647)).toArray) (by kernel_rfl) fun a hE => ?_
  refine st_pure hE rfl 17 rfl rfl (.pointer (some ⟨b1, 2, none⟩)) (by kernel_rfl) fun a hE => ?_
  refine st_pure hE rfl 18 rfl rfl (.pointer (some ⟨b1, 4, none⟩)) (by kernel_rfl) fun a hE => ?_
  refine st_run hE rfl 19 rfl rfl (.int .i64 x0.Qid_.Path_) (ld_box hE hS 0 rfl rfl rfl (by kernel_rfl)) fun a hE => ?_
  refine st_pure hE rfl 20 rfl rfl (.agg (stat_number.enc (stat_number.mk x0.Qid_.Path_ 8 1099511627776)).toArray) (by kernel_rfl) fun a hE => ?_
  refine st_pure hE rfl 21 rfl rfl (.pointer (some ⟨b1, 5, none⟩)) (by kernel_rfl) fun a hE => ?_
  refine st_run hE rfl 22 rfl rfl (.int .i64 x0.Mode_) (ld_box hE hS 0 rfl rfl rfl (by kernel_rfl)) fun a hE => ?_
  refine st_pure hE rfl 23 rfl rfl (.agg (stat_number.enc (stat_number.mk x0.Mode_ 4 3892314623)).toArray) (by kernel_rfl) fun a hE => ?_
  refine st_pure hE rfl 24 rfl rfl (.pointer (some ⟨b1, 6, none⟩)) (by kernel_rfl) fun a hE => ?_
  refine st_run hE rfl 25 rfl rfl (.int .i64 x0.Atime_) (ld_box hE hS 0 rfl rfl rfl (by kernel_rfl)) fun a hE => ?_
  refine st_pure hE rfl 26 rfl rfl (.agg (stat_number.enc (stat_number.mk x0.Atime_ 8 1099511627776)).toArray) (by kernel_rfl) fun a hE => ?_
  refine st_pure hE rfl 27 rfl rfl (.pointer (some ⟨b1, 7, none⟩)) (by kernel_rfl) fun a hE => ?_
  refine st_run hE rfl 28 rfl rfl (.int .i64 x0.Mtime_) (ld_box hE hS 0 rfl rfl rfl (by kernel_rfl)) fun a hE => ?_
  refine st_pure hE rfl 29 rfl rfl (.agg (stat_number.enc (stat_number.mk x0.Mtime_ 8 1099511627776)).toArray) (by kernel_rfl) fun a hE => ?_
  refine st_pure hE rfl 30 rfl rfl (.pointer (some ⟨b1, 8, none⟩)) (by kernel_rfl) fun a hE => ?_
  refine st_run hE rfl 31 rfl rfl (.int .i64 x0.Length_) (ld_box hE hS 0 rfl rfl rfl (by kernel_rfl)) fun a hE => ?_
  refine st_pure hE rfl 32 rfl rfl (.agg (stat_number.enc (stat_number.mk x0.Length_ 8 9007199254740991)).toArray) (by kernel_rfl) fun a hE => ?_
  refine go_slice hE hS rfl 33 rfl rfl 67 3 9 ([(stat_number.mk x0.Type_ 2 65534), (stat_number.mk x0.Dev_ 4 4294967294), (stat_number.mk x0.Qid_.Type_ 1 232), (stat_number.mk x0.Qid_.Vers_ 4 2147483647), (stat_number.mk x0.Qid_.Path_ 8 1099511627776), (stat_number.mk x0.Mode_ 4 3892314623), (stat_number.mk x0.Atime_ 8 1099511627776), (stat_number.mk x0.Mtime_ 8 1099511627776), (stat_number.mk x0.Length_ 8 9007199254740991)].map stat_number.enc) (fun _ => by kernel_rfl) rfl (fun r hr => by obtain ⟨_, _, rfl⟩ := List.mem_map.1 hr; rfl) rfl fun a w A1 hx hE hS => ?_
  refine st_pure hE rfl 2 rfl rfl (.slice A1 [(stat_number.mk x0.Type_ 2 65534), (stat_number.mk x0.Dev_ 4 4294967294), (stat_number.mk x0.Qid_.Type_ 1 232), (stat_number.mk x0.Qid_.Vers_ 4 2147483647), (stat_number.mk x0.Qid_.Path_ 8 1099511627776), (stat_number.mk x0.Mode_ 4 3892314623), (stat_number.mk x0.Atime_ 8 1099511627776), (stat_number.mk x0.Mtime_ 8 1099511627776), (stat_number.mk x0.Length_ 8 9007199254740991)].length 9) (by kernel_rfl) fun a hE => ?_
  refine st_nil ?_
  refine n_then ?_
  refine wp_ret ?_
  obtain rfl := Option.some.inj hF
  exact out (rs := [.tmp 2]) (vs := [.slice A1 [(stat_number.mk x0.Type_ 2 65534), (stat_number.mk x0.Dev_ 4 4294967294), (stat_number.mk x0.Qid_.Type_ 1 232), (stat_number.mk x0.Qid_.Vers_ 4 2147483647), (stat_number.mk x0.Qid_.Path_ 8 1099511627776), (stat_number.mk x0.Mode_ 4 3892314623), (stat_number.mk x0.Atime_ 8 1099511627776), (stat_number.mk x0.Mtime_ 8 1099511627776), (stat_number.mk x0.Length_ 8 9007199254740991)].length 9]) rfl hE hS (.cons (.tmp rfl) .nil) ⟨A1, 9, rfl, hS.pick [0] rfl rfl⟩
/-- filespace/stat.within -/
theorem W_stat_within (x0 : Int) (x1 : Int) (r : Bool) (hF : stat_within x0 x1 = some r) (w0 : World)  : Ret Try.prog 50 #[.int .i64 x0, .int .i64 x1] w0 fun v w => v = .bool r ∧ Sep [] w0 w [] := by
  refine enter Try.func50 rfl rfl rfl fun a hE => ?_
  have hS := Sep.start [] w0
  unfold stat_within at hF
  refine wp_seq ?_
  refine r_list ?_
  refine st_pure hE rfl 4 rfl rfl (.bool false) (by kernel_rfl) fun a hE => ?_
  refine st_nil ?_
  refine n_then ?_
  refine wp_seq ?_
  refine r_list ?_
  refine st_pure hE rfl 5 rfl rfl (.int .i64 x0) (by kernel_rfl) fun a hE => ?_
  refine st_pure hE rfl 6 rfl rfl (.bool (x0 == (-1))) (by kernel_rfl) fun a hE => ?_
  refine st_pure hE rfl 7 rfl rfl (.bool (x0 == (-1))) (by kernel_rfl) fun a hE => ?_
  refine st_cut 9 (fun a w => Env 17 a [(16, .bool ((x0 == (-1)) || ((decide (x0 ≥ 0)) && ((andNotI .i64 x0 x1) == 0))))] ∧ Sep [] w0 w []) ?_ ?_
  · rcases Bool.eq_false_or_eq_true (x0 == (-1)) with hb | hb
    · have hE := hE.bool (t := 7) rfl hb
      refine st_not hE rfl 8 rfl rfl fun a hE => ?_
      refine st_not hE rfl 9 rfl rfl fun a hE => ?_
      refine st_not hE rfl 10 rfl rfl fun a hE => ?_
      refine st_not hE rfl 11 rfl rfl fun a hE => ?_
      refine st_not hE rfl 12 rfl rfl fun a hE => ?_
      refine st_not hE rfl 13 rfl rfl fun a hE => ?_
      refine st_not hE rfl 14 rfl rfl fun a hE => ?_
      refine st_not hE rfl 15 rfl rfl fun a hE => ?_
      refine st_pure hE rfl 16 rfl rfl (.bool true) (by kernel_rfl) fun a hE => ?_
      have hE := hE.re (t := 16) rfl (congrArg Value.bool (or_t (e := ((decide (x0 ≥ 0)) && ((andNotI .i64 x0 x1) == 0))) hb))
      exact st_nil (n_then ⟨hE.sel ⟨rfl, trivial⟩, hS⟩)
    · have hE := hE.bool (t := 7) rfl hb
      refine st_pure hE rfl 8 rfl rfl (.int .i64 x0) (by kernel_rfl) fun a hE => ?_
      refine st_pure hE rfl 9 rfl rfl (.bool (decide (x0 ≥ 0))) (by kernel_rfl) fun a hE => ?_
      refine st_pure hE rfl 10 rfl rfl (.bool (decide (x0 ≥ 0))) (by kernel_rfl) fun a hE => ?_
      refine st_cut 5 (fun a w => Env 17 a [(15, .bool ((decide (x0 ≥ 0)) && ((andNotI .i64 x0 x1) == 0))), (0, .int .i64 x0), (1, .int .i64 x1), (5, .int .i64 x0), (6, .bool (x0 == (-1))), (7, .bool false), (8, .int .i64 x0), (9, .bool (decide (x0 ≥ 0)))] ∧ Sep [] w0 w []) ?_ ?_
      · rcases Bool.eq_false_or_eq_true (decide (x0 ≥ 0)) with hb | hb
        · have hE := hE.bool (t := 10) rfl hb
          refine st_pure hE rfl 11 rfl rfl (.int .i64 x0) (by kernel_rfl) fun a hE => ?_
          refine st_pure hE rfl 12 rfl rfl (.int .i64 x1) (by kernel_rfl) fun a hE => ?_
          refine st_pure hE rfl 13 rfl rfl (.int .i64 (andNotI .i64 x0 x1)) (by kernel_rfl) fun a hE => ?_
          refine st_pure hE rfl 14 rfl rfl (.bool ((andNotI .i64 x0 x1) == 0)) (by kernel_rfl) fun a hE => ?_
          refine st_pure hE rfl 15 rfl rfl (.bool ((andNotI .i64 x0 x1) == 0)) (by kernel_rfl) fun a hE => ?_
          have hE := hE.re (t := 15) rfl (congrArg Value.bool (and_t (e := ((andNotI .i64 x0 x1) == 0)) hb))
          exact st_nil (n_then ⟨hE.sel ⟨rfl, rfl, rfl, rfl, rfl, rfl, rfl, rfl, trivial⟩, hS⟩)
        · have hE := hE.bool (t := 10) rfl hb
          refine st_not hE rfl 11 rfl rfl fun a hE => ?_
          refine st_not hE rfl 12 rfl rfl fun a hE => ?_
          refine st_not hE rfl 13 rfl rfl fun a hE => ?_
          refine st_not hE rfl 14 rfl rfl fun a hE => ?_
          refine st_pure hE rfl 15 rfl rfl (.bool false) (by kernel_rfl) fun a hE => ?_
          have hE := hE.re (t := 15) rfl (congrArg Value.bool (and_f (e := ((andNotI .i64 x0 x1) == 0)) hb))
          exact st_nil (n_then ⟨hE.sel ⟨rfl, rfl, rfl, rfl, rfl, rfl, rfl, rfl, trivial⟩, hS⟩)
      rintro a w ⟨hE, hS⟩
      refine st_pure hE rfl 16 rfl rfl (.bool ((decide (x0 ≥ 0)) && ((andNotI .i64 x0 x1) == 0))) (by kernel_rfl) fun a hE => ?_
      have hE := hE.re (t := 16) rfl (congrArg Value.bool (or_f (e := ((decide (x0 ≥ 0)) && ((andNotI .i64 x0 x1) == 0))) hb))
      exact st_nil (n_then ⟨hE.sel ⟨rfl, trivial⟩, hS⟩)
  rintro a w ⟨hE, hS⟩
  refine st_pure hE rfl 4 rfl rfl (.bool ((x0 == (-1)) || ((decide (x0 ≥ 0)) && ((andNotI .i64 x0 x1) == 0)))) (by kernel_rfl) fun a hE => ?_
  refine st_nil ?_
  refine n_then ?_
  refine wp_ret ?_
  obtain rfl := Option.some.inj hF
  exact out (rs := [.tmp 4]) (vs := [.bool ((x0 == (-1)) || ((decide (x0 ≥ 0)) && ((andNotI .i64 x0 x1) == 0)))]) rfl hE hS (.cons (.tmp rfl) .nil) ⟨rfl, hS.pick [] rfl rfl⟩
/-- filespace/path.Valid -/
theorem W_path_Valid (x0 : Str) (r : Bool) (hF : path_Valid x0 = some r) (w0 : World)  : Ret Try.prog 51 #[S x0] w0 fun v w => v = .bool r ∧ Sep [] w0 w [] := by
  refine enter Try.func51 rfl rfl rfl fun a hE => ?_
  have hS := Sep.start [] w0
  unfold path_Valid at hF
  refine wp_seq ?_
  refine r_list ?_
  refine st_pure hE rfl 2 rfl rfl (.bool false) (by kernel_rfl) fun a hE => ?_
  refine st_nil ?_
  refine n_then ?_
  refine wp_seq ?_
  refine wp_seq ?_
  refine r_list ?_
  refine st_pure hE rfl 4 rfl rfl (S x0) (by kernel_rfl) fun a hE => ?_
  refine st_run hE rfl 5 rfl rfl (.bool (x0 == [])) (run_str_eql rfl (hE.eval rfl) (hE.eval rfl)) fun a hE => ?_
  refine st_pure hE rfl 6 rfl rfl (.bool (x0 == [])) (by kernel_rfl) fun a hE => ?_
  refine st_cut 3 (fun a w => Env 41 a [(9, .bool ((x0 == []) || (x0 == [46]))), (0, S x0)] ∧ Sep [] w0 w []) ?_ ?_
  · rcases Bool.eq_false_or_eq_true (x0 == []) with hb | hb
    · have hE := hE.bool (t := 6) rfl hb
      refine st_not hE rfl 7 rfl rfl fun a hE => ?_
      refine st_not hE rfl 8 rfl rfl fun a hE => ?_
      refine st_pure hE rfl 9 rfl rfl (.bool true) (by kernel_rfl) fun a hE => ?_
      have hE := hE.re (t := 9) rfl (congrArg Value.bool (or_t (e := (x0 == [46])) hb))
      exact st_nil (n_then ⟨hE.sel ⟨rfl, rfl, trivial⟩, hS⟩)
    · have hE := hE.bool (t := 6) rfl hb
      refine st_pure hE rfl 7 rfl rfl (S x0) (by kernel_rfl) fun a hE => ?_
      refine st_run hE rfl 8 rfl rfl (.bool (x0 == [46])) (run_str_eql rfl (hE.eval rfl) (hE.eval rfl)) fun a hE => ?_
      refine st_pure hE rfl 9 rfl rfl (.bool (x0 == [46])) (by kernel_rfl) fun a hE => ?_
      have hE := hE.re (t := 9) rfl (congrArg Value.bool (or_f (e := (x0 == [46])) hb))
      exact st_nil (n_then ⟨hE.sel ⟨rfl, rfl, trivial⟩, hS⟩)
  rintro a w ⟨hE, hS⟩
  refine st_pure hE rfl 10 rfl rfl (.bool ((x0 == []) || (x0 == [46]))) (by kernel_rfl) fun a hE => ?_
  refine st_cut 3 (fun a w => Env 41 a [(13, .bool (((x0 == []) || (x0 == [46])) || (x0 == [46, 46]))), (0, S x0)] ∧ Sep [] w0 w []) ?_ ?_
  · rcases Bool.eq_false_or_eq_true ((x0 == []) || (x0 == [46])) with hb | hb
    · have hE := hE.bool (t := 10) rfl hb
      refine st_not hE rfl 11 rfl rfl fun a hE => ?_
      refine st_not hE rfl 12 rfl rfl fun a hE => ?_
      refine st_pure hE rfl 13 rfl rfl (.bool true) (by kernel_rfl) fun a hE => ?_
      have hE := hE.re (t := 13) rfl (congrArg Value.bool (or_t (e := (x0 == [46, 46])) hb))
      exact st_nil (n_then ⟨hE.sel ⟨rfl, rfl, trivial⟩, hS⟩)
    · have hE := hE.bool (t := 10) rfl hb
      refine st_pure hE rfl 11 rfl rfl (S x0) (by kernel_rfl) fun a hE => ?_
      refine st_run hE rfl 12 rfl rfl (.bool (x0 == [46, 46])) (run_str_eql rfl (hE.eval rfl) (hE.eval rfl)) fun a hE => ?_
      refine st_pure hE rfl 13 rfl rfl (.bool (x0 == [46, 46])) (by kernel_rfl) fun a hE => ?_
      have hE := hE.re (t := 13) rfl (congrArg Value.bool (or_f (e := (x0 == [46, 46])) hb))
      exact st_nil (n_then ⟨hE.sel ⟨rfl, rfl, trivial⟩, hS⟩)
  rintro a w ⟨hE, hS⟩
  refine st_pure hE rfl 14 rfl rfl (.bool (((x0 == []) || (x0 == [46])) || (x0 == [46, 46]))) (by kernel_rfl) fun a hE => ?_
  refine st_cut 4 (fun a w => Env 41 a [(18, .bool ((((x0 == []) || (x0 == [46])) || (x0 == [46, 46])) || (decide ((x0.length : Int) > 64)))), (0, S x0)] ∧ Sep [] w0 w []) ?_ ?_
  · rcases Bool.eq_false_or_eq_true (((x0 == []) || (x0 == [46])) || (x0 == [46, 46])) with hb | hb
    · have hE := hE.bool (t := 14) rfl hb
      refine st_not hE rfl 15 rfl rfl fun a hE => ?_
      refine st_not hE rfl 16 rfl rfl fun a hE => ?_
      refine st_not hE rfl 17 rfl rfl fun a hE => ?_
      refine st_pure hE rfl 18 rfl rfl (.bool true) (by kernel_rfl) fun a hE => ?_
      have hE := hE.re (t := 18) rfl (congrArg Value.bool (or_t (e := (decide ((x0.length : Int) > 64))) hb))
      exact st_nil (n_then ⟨hE.sel ⟨rfl, rfl, trivial⟩, hS⟩)
    · have hE := hE.bool (t := 14) rfl hb
      refine st_pure hE rfl 15 rfl rfl (S x0) (by kernel_rfl) fun a hE => ?_
      refine st_pure hE rfl 16 rfl rfl (.int .i64 (x0.length : Int)) (by kernel_rfl) fun a hE => ?_
      refine st_pure hE rfl 17 rfl rfl (.bool (decide ((x0.length : Int) > 64))) (by kernel_rfl) fun a hE => ?_
      refine st_pure hE rfl 18 rfl rfl (.bool (decide ((x0.length : Int) > 64))) (by kernel_rfl) fun a hE => ?_
      have hE := hE.re (t := 18) rfl (congrArg Value.bool (or_f (e := (decide ((x0.length : Int) > 64))) hb))
      exact st_nil (n_then ⟨hE.sel ⟨rfl, rfl, trivial⟩, hS⟩)
  rintro a w ⟨hE, hS⟩
  refine st_nil ?_
  refine n_then ?_
  rcases Bool.eq_false_or_eq_true ((((x0 == []) || (x0 == [46])) || (x0 == [46, 46])) || (decide ((x0.length : Int) > 64))) with hb | hb
  · have hF := if_t hF hb
    refine c_true hE rfl hb ?_
    refine wp_seq ?_
    refine r_list ?_
    refine st_pure hE rfl 2 rfl rfl (.bool false) (by kernel_rfl) fun a hE => ?_
    refine st_nil ?_
    refine n_then ?_
    refine wp_ret ?_
    obtain rfl := Option.some.inj hF
    refine r_then ?_
    exact out (rs := [.tmp 2]) (vs := [.bool false]) rfl hE hS (.cons (.tmp rfl) .nil) ⟨rfl, hS.pick [] rfl rfl⟩
  have hF := if_f hF hb
  refine c_false hE rfl hb ?_
  refine wp_skip ?_
  refine n_then ?_
  refine wp_seq ?_
  refine wp_seq ?_
  refine r_list ?_
  refine st_pure hE rfl 19 rfl rfl (S x0) (by kernel_rfl) fun a hE => ?_
  refine st_pure hE rfl 20 rfl rfl (.int .i64 (x0.length : Int)) (by kernel_rfl) fun a hE => ?_
  refine st_pure hE rfl 21 rfl rfl (.int .i64 0) (by kernel_rfl) fun a hE => ?_
  refine st_nil ?_
  refine n_then ?_
  obtain ⟨o1, g1, hF⟩ := bind_some hF
  refine w_meet (fun a w => ∃ s1, o1 = .fall s1 ∧ Env 41 a [] ∧ Sep [] w0 w []) ?_ ?_
  · refine wp_block ?_
    refine loop_rule g1 (fun (s1 : Int) a w => Env 41 a [(0, S x0), (20, .int .i64 (x0.length : Int)), (21, .int .i64 s1)] ∧ Sep [] w0 w []) ?_ ?_
    · exact ⟨hE.sel ⟨rfl, rfl, rfl, trivial⟩, hS.pick [] rfl rfl⟩
    rintro s1 a w ⟨hE, hS⟩ st hB1 hD1
    unfold path_Valid_L1 at hB1
    refine wp_seq ?_
    refine r_list ?_
    refine st_pure hE rfl 22 rfl rfl (.bool (decide (s1 < (x0.length : Int)))) (by kernel_rfl) fun a hE => ?_
    refine st_nil ?_
    refine n_then ?_
    refine wp_seq ?_
    rcases (Bool.eq_false_or_eq_true (decide (s1 < (x0.length : Int)))).symm with hb | hb
    · have hB1 := if_f hB1 hb
      refine c_false hE rfl hb ?_
      refine wp_exit ?_
      refine e_then (e_then (e_in ?_))
      obtain rfl := Option.some.inj hB1
      have hd := hD1 _ rfl
      subst hd
      refine n_then ?_
      exact ⟨_, rfl, hE.sel trivial, hS.pick [] rfl rfl⟩
    have hB1 := if_t hB1 hb
    refine c_true hE rfl hb ?_
    refine wp_skip ?_
    refine n_then ?_
    refine wp_seq ?_
    refine wp_block ?_
    refine wp_seq ?_
    refine r_list ?_
    refine st_pure hE rfl 23 rfl rfl (.int .i64 s1) (by kernel_rfl) fun a hE => ?_
    refine st_pure hE rfl 3 rfl rfl (.int .i64 s1) (by kernel_rfl) fun a hE => ?_
    refine st_nil ?_
    refine n_then ?_
    refine wp_seq ?_
    refine r_list ?_
    refine st_pure hE rfl 24 rfl rfl (S x0) (by kernel_rfl) fun a hE => ?_
    refine st_pure hE rfl 25 rfl rfl (.int .i64 s1) (by kernel_rfl) fun a hE => ?_
    obtain ⟨y1, h1, hB1⟩ := bind_some hB1
    refine st_run hE rfl 26 rfl rfl (.int .u8 y1) (run_byteI rfl (by kernel_rfl) (hE.eval rfl) (hE.eval rfl) h1) fun a hE => ?_
    refine st_pure hE rfl 27 rfl rfl (.bool (decide (y1 < 33))) (by kernel_rfl) fun a hE => ?_
    refine st_pure hE rfl 28 rfl rfl (.bool (decide (y1 < 33))) (by kernel_rfl) fun a hE => ?_
    obtain ⟨y2, h2, hB1⟩ := bind_some hB1
    refine st_cut 5 (fun a w => Env 41 a [(33, .bool y2), (0, S x0), (3, .int .i64 s1), (20, .int .i64 (x0.length : Int)), (21, .int .i64 s1)] ∧ Sep [] w0 w []) ?_ ?_
    · rcases Bool.eq_false_or_eq_true (decide (y1 < 33)) with hb | hb
      · have hE := hE.bool (t := 28) rfl hb
        have h2 := if_t h2 hb
        refine st_not hE rfl 29 rfl rfl fun a hE => ?_
        refine st_not hE rfl 30 rfl rfl fun a hE => ?_
        refine st_not hE rfl 31 rfl rfl fun a hE => ?_
        refine st_not hE rfl 32 rfl rfl fun a hE => ?_
        refine st_pure hE rfl 33 rfl rfl (.bool true) (by kernel_rfl) fun a hE => ?_
        obtain rfl := Option.some.inj h2
        exact st_nil (n_then ⟨hE.sel ⟨rfl, rfl, rfl, rfl, rfl, trivial⟩, hS⟩)
      · have hE := hE.bool (t := 28) rfl hb
        have h2 := if_f h2 hb
        refine st_pure hE rfl 29 rfl rfl (S x0) (by kernel_rfl) fun a hE => ?_
        refine st_pure hE rfl 30 rfl rfl (.int .i64 s1) (by kernel_rfl) fun a hE => ?_
        obtain ⟨y3, h3, h2⟩ := bind_some h2
        refine st_run hE rfl 31 rfl rfl (.int .u8 y3) (run_byteI rfl (by kernel_rfl) (hE.eval rfl) (hE.eval rfl) h3) fun a hE => ?_
        refine st_pure hE rfl 32 rfl rfl (.bool (decide (y3 > 126))) (by kernel_rfl) fun a hE => ?_
        refine st_pure hE rfl 33 rfl rfl (.bool (decide (y3 > 126))) (by kernel_rfl) fun a hE => ?_
        obtain rfl := Option.some.inj h2
        exact st_nil (n_then ⟨hE.sel ⟨rfl, rfl, rfl, rfl, rfl, trivial⟩, hS⟩)
    rintro a w ⟨hE, hS⟩
    refine st_pure hE rfl 34 rfl rfl (.bool y2) (by kernel_rfl) fun a hE => ?_
    obtain ⟨y4, h4, hB1⟩ := bind_some hB1
    refine st_cut 5 (fun a w => Env 41 a [(39, .bool y4), (0, S x0), (20, .int .i64 (x0.length : Int)), (21, .int .i64 s1)] ∧ Sep [] w0 w []) ?_ ?_
    · rcases Bool.eq_false_or_eq_true y2 with hb | hb
      · have hE := hE.bool (t := 34) rfl hb
        have h4 := if_t h4 hb
        refine st_not hE rfl 35 rfl rfl fun a hE => ?_
        refine st_not hE rfl 36 rfl rfl fun a hE => ?_
        refine st_not hE rfl 37 rfl rfl fun a hE => ?_
        refine st_not hE rfl 38 rfl rfl fun a hE => ?_
        refine st_pure hE rfl 39 rfl rfl (.bool true) (by kernel_rfl) fun a hE => ?_
        obtain rfl := Option.some.inj h4
        exact st_nil (n_then ⟨hE.sel ⟨rfl, rfl, rfl, rfl, trivial⟩, hS⟩)
      · have hE := hE.bool (t := 34) rfl hb
        have h4 := if_f h4 hb
        refine st_pure hE rfl 35 rfl rfl (S x0) (by kernel_rfl) fun a hE => ?_
        refine st_pure hE rfl 36 rfl rfl (.int .i64 s1) (by kernel_rfl) fun a hE => ?_
        obtain ⟨y5, h5, h4⟩ := bind_some h4
        refine st_run hE rfl 37 rfl rfl (.int .u8 y5) (run_byteI rfl (by kernel_rfl) (hE.eval rfl) (hE.eval rfl) h5) fun a hE => ?_
        refine st_pure hE rfl 38 rfl rfl (.bool (y5 == 47)) (by kernel_rfl) fun a hE => ?_
        refine st_pure hE rfl 39 rfl rfl (.bool (y5 == 47)) (by kernel_rfl) fun a hE => ?_
        obtain rfl := Option.some.inj h4
        exact st_nil (n_then ⟨hE.sel ⟨rfl, rfl, rfl, rfl, trivial⟩, hS⟩)
    rintro a w ⟨hE, hS⟩
    refine st_nil ?_
    refine n_then ?_
    rcases Bool.eq_false_or_eq_true y4 with hb | hb
    · have hB1 := if_t hB1 hb
      refine c_true hE rfl hb ?_
      refine wp_seq ?_
      refine r_list ?_
      refine st_pure hE rfl 2 rfl rfl (.bool false) (by kernel_rfl) fun a hE => ?_
      refine st_nil ?_
      refine n_then ?_
      refine wp_ret ?_
      obtain rfl := Option.some.inj hB1
      have hd := hD1 _ rfl
      subst hd
      obtain rfl := Option.some.inj hF
      refine r_in (r_then (r_then (r_in (r_then (r_then ?_)))))
      exact out (rs := [.tmp 2]) (vs := [.bool false]) rfl hE hS (.cons (.tmp rfl) .nil) ⟨rfl, hS.pick [] rfl rfl⟩
    have hB1 := if_f hB1 hb
    refine c_false hE rfl hb ?_
    refine wp_skip ?_
    refine n_in ?_
    refine n_then ?_
    refine r_list ?_
    refine st_pure hE rfl 40 rfl rfl (.int .i64 (w64 (s1 + 1))) (by kernel_rfl) fun a hE => ?_
    refine st_pure hE rfl 21 rfl rfl (.int .i64 (w64 (s1 + 1))) (by kernel_rfl) fun a hE => ?_
    refine st_nil ?_
    obtain rfl := Option.some.inj hB1
    refine n_then ?_
    exact ⟨_, rfl, hE.sel ⟨rfl, rfl, rfl, trivial⟩, hS.pick [] rfl rfl⟩
  rintro a w ⟨s1, rfl, hE, hS⟩
  replace hF := hF
  refine n_then ?_
  refine wp_seq ?_
  refine r_list ?_
  refine st_pure hE rfl 2 rfl rfl (.bool true) (by kernel_rfl) fun a hE => ?_
  refine st_nil ?_
  refine n_then ?_
  refine wp_ret ?_
  obtain rfl := Option.some.inj hF
  exact out (rs := [.tmp 2]) (vs := [.bool true]) rfl hE hS (.cons (.tmp rfl) .nil) ⟨rfl, hS.pick [] rfl rfl⟩
/-- filespace/stat.Check -/
theorem W_stat_Check (x0 : api_Dir) (r : Int) (hF : stat_Check x0 = some r) (w0 : World)  : Ret Try.prog 29 #[.agg (api_Dir.enc x0).toArray] w0 fun v w => v = .int .i64 r ∧ Sep [] w0 w [] := by
  refine enter Try.func29 rfl rfl rfl fun a hE => ?_
  have hS := Sep.start [] w0
  unfold stat_Check at hF
  refine wp_seq ?_
  refine r_list ?_
  refine go_box hE hS rfl 1 rfl rfl 27 (api_Dir.enc x0) (fun _ => by kernel_rfl) fun a w b1 hx hE hS => ?_
  refine st_pure hE rfl 2 rfl rfl (.int .i64 0) (by kernel_rfl) fun a hE => ?_
  refine st_nil ?_
  refine n_then ?_
  refine wp_seq ?_
  refine wp_seq ?_
  refine r_list ?_
  refine st_run hE rfl 5 rfl rfl (.agg (api_Dir.enc x0).toArray) (ld_box hE hS 0 rfl rfl rfl (by kernel_rfl)) fun a hE => ?_
  obtain ⟨y1, h1, hF⟩ := bind_some hF
  refine go_call hE rfl 6 rfl rfl 49 _ (by kernel_rfl) (W_stat_numbers x0 _ h1 _ ) fun a v w hR hE => ?_
  obtain ⟨A1, c1, rfl, hq⟩ := hR
  have hS := hS.call hq rfl
  refine st_pure hE rfl 7 rfl rfl (.int .i64 (y1.length : Int)) (by kernel_rfl) fun a hE => ?_
  refine st_pure hE rfl 8 rfl rfl (.int .i64 0) (by kernel_rfl) fun a hE => ?_
  refine st_nil ?_
  refine n_then ?_
  obtain ⟨o1, g1, hF⟩ := bind_some hF
  refine w_meet (fun a w => ∃ s1, o1 = .fall s1 ∧ Env 61 a [(1, .pointer (some ⟨b1, 0, none⟩))] ∧ Sep [] w0 w [.box b1 27 (api_Dir.enc x0)]) ?_ ?_
  · refine wp_block ?_
    refine loop_rule g1 (fun (s1 : Int) a w => Env 61 a [(1, .pointer (some ⟨b1, 0, none⟩)), (6, .slice A1 y1.length c1), (7, .int .i64 (y1.length : Int)), (8, .int .i64 s1)] ∧ Sep [] w0 w [.box b1 27 (api_Dir.enc x0), .row 67 3 A1 y1.length c1 (y1.map stat_number.enc)]) ?_ ?_
    · exact ⟨hE.sel ⟨rfl, rfl, rfl, rfl, trivial⟩, hS.pick [1, 0] rfl rfl⟩
    rintro s1 a w ⟨hE, hS⟩ st hB1 hD1
    unfold stat_Check_L1 at hB1
    refine wp_seq ?_
    refine r_list ?_
    refine st_pure hE rfl 9 rfl rfl (.bool (decide (s1 < (y1.length : Int)))) (by kernel_rfl) fun a hE => ?_
    refine st_nil ?_
    refine n_then ?_
    refine wp_seq ?_
    rcases (Bool.eq_false_or_eq_true (decide (s1 < (y1.length : Int)))).symm with hb | hb
    · have hB1 := if_f hB1 hb
      refine c_false hE rfl hb ?_
      refine wp_exit ?_
      refine e_then (e_then (e_in ?_))
      obtain rfl := Option.some.inj hB1
      have hd := hD1 _ rfl
      subst hd
      refine n_then ?_
      exact ⟨_, rfl, hE.sel ⟨rfl, trivial⟩, hS.pick [0] rfl rfl⟩
    have hB1 := if_t hB1 hb
    refine c_true hE rfl hb ?_
    refine wp_skip ?_
    refine n_then ?_
    refine wp_seq ?_
    refine wp_block ?_
    refine wp_seq ?_
    refine r_list ?_
    obtain ⟨y2, h2, hB1⟩ := bind_some hB1
    refine go_at (e := 67) (c := 3) hE hS rfl 10 rfl rfl 1 rfl (by kernel_rfl) (by kernel_rfl) rfl rfl rfl .row rfl h2 fun a b2 p1 hA1 hE => ?_
    refine st_run hE rfl 11 rfl rfl (.agg (stat_number.enc y2).toArray) (ld_elem (k := 1) (f := stat_number.enc) (j := 0) hE hS rfl rfl rfl .row hA1 h2 rfl (by kernel_rfl)) fun a hE => ?_
    refine go_box hE hS rfl 4 rfl rfl 67 (stat_number.enc (stat_number.mk 0 0 0)) (fun _ => by kernel_rfl) fun a w b3 hx hE hS => ?_
    refine go_set (L' := [.box b3 67 (stat_number.enc y2), .box b1 27 (api_Dir.enc x0), .row 67 3 A1 y1.length c1 (y1.map stat_number.enc)]) hE hS rfl rfl 0 rfl rfl rfl rfl (by kernel_rfl) (by kernel_rfl) (by kernel_rfl) (stat_number.enc y2) (by kernel_rfl) rfl fun w hS => ?_
    refine st_nil ?_
    refine n_then ?_
    refine wp_seq ?_
    refine r_list ?_
    refine st_pure hE rfl 12 rfl rfl (.pointer (some ⟨b3, 0, none⟩)) (by kernel_rfl) fun a hE => ?_
    refine st_run hE rfl 13 rfl rfl (.int .i64 y2.n_) (ld_box hE hS 0 rfl rfl rfl (by kernel_rfl)) fun a hE => ?_
    refine st_pure hE rfl 14 rfl rfl (.bool (decide (y2.n_ < (-1)))) (by kernel_rfl) fun a hE => ?_
    refine st_pure hE rfl 15 rfl rfl (.bool (decide (y2.n_ < (-1)))) (by kernel_rfl) fun a hE => ?_
    refine st_cut 6 (fun a w => Env 61 a [(21, .bool ((decide (y2.n_ < (-1))) || (decide (y2.n_ > y2.most_)))), (1, .pointer (some ⟨b1, 0, none⟩)), (6, .slice A1 y1.length c1), (7, .int .i64 (y1.length : Int)), (8, .int .i64 s1)] ∧ Sep [] w0 w [.box b3 67 (stat_number.enc y2), .box b1 27 (api_Dir.enc x0), .row 67 3 A1 y1.length c1 (y1.map stat_number.enc)]) ?_ ?_
    · rcases Bool.eq_false_or_eq_true (decide (y2.n_ < (-1))) with hb | hb
      · have hE := hE.bool (t := 15) rfl hb
        refine st_not hE rfl 16 rfl rfl fun a hE => ?_
        refine st_not hE rfl 17 rfl rfl fun a hE => ?_
        refine st_not hE rfl 18 rfl rfl fun a hE => ?_
        refine st_not hE rfl 19 rfl rfl fun a hE => ?_
        refine st_not hE rfl 20 rfl rfl fun a hE => ?_
        refine st_pure hE rfl 21 rfl rfl (.bool true) (by kernel_rfl) fun a hE => ?_
        have hE := hE.re (t := 21) rfl (congrArg Value.bool (or_t (e := (decide (y2.n_ > y2.most_))) hb))
        exact st_nil (n_then ⟨hE.sel ⟨rfl, rfl, rfl, rfl, rfl, trivial⟩, hS⟩)
      · have hE := hE.bool (t := 15) rfl hb
        refine st_pure hE rfl 16 rfl rfl (.pointer (some ⟨b3, 0, none⟩)) (by kernel_rfl) fun a hE => ?_
        refine st_run hE rfl 17 rfl rfl (.int .i64 y2.n_) (ld_box hE hS 0 rfl rfl rfl (by kernel_rfl)) fun a hE => ?_
        refine st_pure hE rfl 18 rfl rfl (.pointer (some ⟨b3, 2, none⟩)) (by kernel_rfl) fun a hE => ?_
        refine st_run hE rfl 19 rfl rfl (.int .i64 y2.most_) (ld_box hE hS 0 rfl rfl rfl (by kernel_rfl)) fun a hE => ?_
        refine st_pure hE rfl 20 rfl rfl (.bool (decide (y2.n_ > y2.most_))) (by kernel_rfl) fun a hE => ?_
        refine st_pure hE rfl 21 rfl rfl (.bool (decide (y2.n_ > y2.most_))) (by kernel_rfl) fun a hE => ?_
        have hE := hE.re (t := 21) rfl (congrArg Value.bool (or_f (e := (decide (y2.n_ > y2.most_))) hb))
        exact st_nil (n_then ⟨hE.sel ⟨rfl, rfl, rfl, rfl, rfl, trivial⟩, hS⟩)
    rintro a w ⟨hE, hS⟩
    refine st_nil ?_
    refine n_then ?_
    rcases Bool.eq_false_or_eq_true ((decide (y2.n_ < (-1))) || (decide (y2.n_ > y2.most_))) with hb | hb
    · have hB1 := if_t hB1 hb
      refine c_true hE rfl hb ?_
      refine wp_seq ?_
      refine r_list ?_
      refine st_pure hE rfl 2 rfl rfl (.int .i64 5) (by kernel_rfl) fun a hE => ?_
      refine st_nil ?_
      refine n_then ?_
      refine wp_ret ?_
      obtain rfl := Option.some.inj hB1
      have hd := hD1 _ rfl
      subst hd
      obtain rfl := Option.some.inj hF
      refine r_in (r_then (r_then (r_in (r_then (r_then ?_)))))
      exact out (rs := [.tmp 2]) (vs := [.int .i64 5]) rfl hE hS (.cons (.tmp rfl) .nil) ⟨rfl, hS.pick [] rfl rfl⟩
    have hB1 := if_f hB1 hb
    refine c_false hE rfl hb ?_
    refine wp_skip ?_
    refine n_in ?_
    refine n_then ?_
    refine r_list ?_
    refine st_pure hE rfl 22 rfl rfl (.int .i64 (w64 (s1 + 1))) (by kernel_rfl) fun a hE => ?_
    refine st_pure hE rfl 8 rfl rfl (.int .i64 (w64 (s1 + 1))) (by kernel_rfl) fun a hE => ?_
    refine st_nil ?_
    obtain rfl := Option.some.inj hB1
    refine n_then ?_
    exact ⟨_, rfl, hE.sel ⟨rfl, rfl, rfl, rfl, trivial⟩, hS.pick [1, 2] rfl rfl⟩
  rintro a w ⟨s1, rfl, hE, hS⟩
  replace hF := hF
  refine n_then ?_
  refine wp_seq ?_
  refine wp_seq ?_
  refine r_list ?_
  refine st_pure hE rfl 23 rfl rfl (.pointer (some ⟨b1, 2, none⟩)) (by kernel_rfl) fun a hE => ?_
  refine st_pure hE rfl 24 rfl rfl (.pointer (some ⟨b1, 2, none⟩)) (by kernel_rfl) fun a hE => ?_
  refine st_run hE rfl 25 rfl rfl (.int .i64 x0.Qid_.Type_) (ld_box hE hS 0 rfl rfl rfl (by kernel_rfl)) fun a hE => ?_
  obtain ⟨y3, h3, hF⟩ := bind_some hF
  refine go_call hE rfl 26 rfl rfl 50 _ (by kernel_rfl) (W_stat_within x0.Qid_.Type_ 232 _ h3 _ ) fun a v w hR hE => ?_
  obtain ⟨rfl, hq⟩ := hR
  have hS := hS.call hq rfl
  refine st_pure hE rfl 27 rfl rfl (.bool (!y3)) (by kernel_rfl) fun a hE => ?_
  refine st_pure hE rfl 28 rfl rfl (.bool (!y3)) (by kernel_rfl) fun a hE => ?_
  obtain ⟨y4, h4, hF⟩ := bind_some hF
  refine st_cut 5 (fun a w => Env 61 a [(33, .bool y4), (1, .pointer (some ⟨b1, 0, none⟩))] ∧ Sep [] w0 w [.box b1 27 (api_Dir.enc x0)]) ?_ ?_
  · rcases Bool.eq_false_or_eq_true (!y3) with hb | hb
    · have hE := hE.bool (t := 28) rfl hb
      have h4 := if_t h4 hb
      refine st_not hE rfl 29 rfl rfl fun a hE => ?_
      refine st_not hE rfl 30 rfl rfl fun a hE => ?_
      refine st_not hE rfl 31 rfl rfl fun a hE => ?_
      refine st_not hE rfl 32 rfl rfl fun a hE => ?_
      refine st_pure hE rfl 33 rfl rfl (.bool true) (by kernel_rfl) fun a hE => ?_
      obtain rfl := Option.some.inj h4
      exact st_nil (n_then ⟨hE.sel ⟨rfl, rfl, trivial⟩, hS⟩)
    · have hE := hE.bool (t := 28) rfl hb
      have h4 := if_f h4 hb
      refine st_pure hE rfl 29 rfl rfl (.pointer (some ⟨b1, 5, none⟩)) (by kernel_rfl) fun a hE => ?_
      refine st_run hE rfl 30 rfl rfl (.int .i64 x0.Mode_) (ld_box hE hS 0 rfl rfl rfl (by kernel_rfl)) fun a hE => ?_
      obtain ⟨y5, h5, h4⟩ := bind_some h4
      refine go_call hE rfl 31 rfl rfl 50 _ (by kernel_rfl) (W_stat_within x0.Mode_ 3892314623 _ h5 _ ) fun a v w hR hE => ?_
      obtain ⟨rfl, hq⟩ := hR
      have hS := hS.call hq rfl
      refine st_pure hE rfl 32 rfl rfl (.bool (!y5)) (by kernel_rfl) fun a hE => ?_
      refine st_pure hE rfl 33 rfl rfl (.bool (!y5)) (by kernel_rfl) fun a hE => ?_
      obtain rfl := Option.some.inj h4
      exact st_nil (n_then ⟨hE.sel ⟨rfl, rfl, trivial⟩, hS⟩)
  rintro a w ⟨hE, hS⟩
  refine st_nil ?_
  refine n_then ?_
  rcases Bool.eq_false_or_eq_true y4 with hb | hb
  · have hF := if_t hF hb
    refine c_true hE rfl hb ?_
    refine wp_seq ?_
    refine r_list ?_
    refine st_pure hE rfl 2 rfl rfl (.int .i64 5) (by kernel_rfl) fun a hE => ?_
    refine st_nil ?_
    refine n_then ?_
    refine wp_ret ?_
    obtain rfl := Option.some.inj hF
    refine r_then ?_
    exact out (rs := [.tmp 2]) (vs := [.int .i64 5]) rfl hE hS (.cons (.tmp rfl) .nil) ⟨rfl, hS.pick [] rfl rfl⟩
  have hF := if_f hF hb
  refine c_false hE rfl hb ?_
  refine wp_skip ?_
  refine n_then ?_
  refine wp_seq ?_
  refine wp_seq ?_
  refine r_list ?_
  refine st_pure hE rfl 34 rfl rfl (.pointer (some ⟨b1, 9, none⟩)) (by kernel_rfl) fun a hE => ?_
  refine st_run hE rfl 35 rfl rfl (S x0.Name_) (ld_box hE hS 0 rfl rfl rfl (by kernel_rfl)) fun a hE => ?_
  refine st_run hE rfl 36 rfl rfl (.bool (!(x0.Name_ == []))) (run_str_neq rfl (hE.eval rfl) (hE.eval rfl)) fun a hE => ?_
  refine st_pure hE rfl 37 rfl rfl (.bool (!(x0.Name_ == []))) (by kernel_rfl) fun a hE => ?_
  refine st_cut 4 (fun a w => Env 61 a [(41, .bool ((!(x0.Name_ == [])) && (!(x0.Name_ == [47])))), (1, .pointer (some ⟨b1, 0, none⟩))] ∧ Sep [] w0 w [.box b1 27 (api_Dir.enc x0)]) ?_ ?_
  · rcases Bool.eq_false_or_eq_true (!(x0.Name_ == [])) with hb | hb
    · have hE := hE.bool (t := 37) rfl hb
      refine st_pure hE rfl 38 rfl rfl (.pointer (some ⟨b1, 9, none⟩)) (by kernel_rfl) fun a hE => ?_
      refine st_run hE rfl 39 rfl rfl (S x0.Name_) (ld_box hE hS 0 rfl rfl rfl (by kernel_rfl)) fun a hE => ?_
      refine st_run hE rfl 40 rfl rfl (.bool (!(x0.Name_ == [47]))) (run_str_neq rfl (hE.eval rfl) (hE.eval rfl)) fun a hE => ?_
      refine st_pure hE rfl 41 rfl rfl (.bool (!(x0.Name_ == [47]))) (by kernel_rfl) fun a hE => ?_
      have hE := hE.re (t := 41) rfl (congrArg Value.bool (and_t (e := (!(x0.Name_ == [47]))) hb))
      exact st_nil (n_then ⟨hE.sel ⟨rfl, rfl, trivial⟩, hS⟩)
    · have hE := hE.bool (t := 37) rfl hb
      refine st_not hE rfl 38 rfl rfl fun a hE => ?_
      refine st_not hE rfl 39 rfl rfl fun a hE => ?_
      refine st_not hE rfl 40 rfl rfl fun a hE => ?_
      refine st_pure hE rfl 41 rfl rfl (.bool false) (by kernel_rfl) fun a hE => ?_
      have hE := hE.re (t := 41) rfl (congrArg Value.bool (and_f (e := (!(x0.Name_ == [47]))) hb))
      exact st_nil (n_then ⟨hE.sel ⟨rfl, rfl, trivial⟩, hS⟩)
  rintro a w ⟨hE, hS⟩
  refine st_pure hE rfl 42 rfl rfl (.bool ((!(x0.Name_ == [])) && (!(x0.Name_ == [47])))) (by kernel_rfl) fun a hE => ?_
  obtain ⟨y6, h6, hF⟩ := bind_some hF
  refine st_cut 5 (fun a w => Env 61 a [(47, .bool y6), (1, .pointer (some ⟨b1, 0, none⟩))] ∧ Sep [] w0 w [.box b1 27 (api_Dir.enc x0)]) ?_ ?_
  · rcases Bool.eq_false_or_eq_true ((!(x0.Name_ == [])) && (!(x0.Name_ == [47]))) with hb | hb
    · have hE := hE.bool (t := 42) rfl hb
      have h6 := if_t h6 hb
      refine st_pure hE rfl 43 rfl rfl (.pointer (some ⟨b1, 9, none⟩)) (by kernel_rfl) fun a hE => ?_
      refine st_run hE rfl 44 rfl rfl (S x0.Name_) (ld_box hE hS 0 rfl rfl rfl (by kernel_rfl)) fun a hE => ?_
      obtain ⟨y7, h7, h6⟩ := bind_some h6
      refine go_call hE rfl 45 rfl rfl 51 _ (by kernel_rfl) (W_path_Valid x0.Name_ _ h7 _ ) fun a v w hR hE => ?_
      obtain ⟨rfl, hq⟩ := hR
      have hS := hS.call hq rfl
      refine st_pure hE rfl 46 rfl rfl (.bool (!y7)) (by kernel_rfl) fun a hE => ?_
      refine st_pure hE rfl 47 rfl rfl (.bool (!y7)) (by kernel_rfl) fun a hE => ?_
      obtain rfl := Option.some.inj h6
      exact st_nil (n_then ⟨hE.sel ⟨rfl, rfl, trivial⟩, hS⟩)
    · have hE := hE.bool (t := 42) rfl hb
      have h6 := if_f h6 hb
      refine st_not hE rfl 43 rfl rfl fun a hE => ?_
      refine st_not hE rfl 44 rfl rfl fun a hE => ?_
      refine st_not hE rfl 45 rfl rfl fun a hE => ?_
      refine st_not hE rfl 46 rfl rfl fun a hE => ?_
      refine st_pure hE rfl 47 rfl rfl (.bool false) (by kernel_rfl) fun a hE => ?_
      obtain rfl := Option.some.inj h6
      exact st_nil (n_then ⟨hE.sel ⟨rfl, rfl, trivial⟩, hS⟩)
  rintro a w ⟨hE, hS⟩
  refine st_pure hE rfl 48 rfl rfl (.bool y6) (by kernel_rfl) fun a hE => ?_
  refine st_cut 12 (fun a w => Env 61 a [(60, .bool (y6 || (decide ((maxI (maxI (x0.Uid_.length : Int) (x0.Gid_.length : Int)) (x0.Muid_.length : Int)) > 64))))] ∧ Sep [] w0 w [.box b1 27 (api_Dir.enc x0)]) ?_ ?_
  · rcases Bool.eq_false_or_eq_true y6 with hb | hb
    · have hE := hE.bool (t := 48) rfl hb
      refine st_not hE rfl 49 rfl rfl fun a hE => ?_
      refine st_not hE rfl 50 rfl rfl fun a hE => ?_
      refine st_not hE rfl 51 rfl rfl fun a hE => ?_
      refine st_not hE rfl 52 rfl rfl fun a hE => ?_
      refine st_not hE rfl 53 rfl rfl fun a hE => ?_
      refine st_not hE rfl 54 rfl rfl fun a hE => ?_
      refine st_not hE rfl 55 rfl rfl fun a hE => ?_
      refine st_not hE rfl 56 rfl rfl fun a hE => ?_
      refine st_not hE rfl 57 rfl rfl fun a hE => ?_
      refine st_not hE rfl 58 rfl rfl fun a hE => ?_
      refine st_not hE rfl 59 rfl rfl fun a hE => ?_
      refine st_pure hE rfl 60 rfl rfl (.bool true) (by kernel_rfl) fun a hE => ?_
      have hE := hE.re (t := 60) rfl (congrArg Value.bool (or_t (e := (decide ((maxI (maxI (x0.Uid_.length : Int) (x0.Gid_.length : Int)) (x0.Muid_.length : Int)) > 64))) hb))
      exact st_nil (n_then ⟨hE.sel ⟨rfl, trivial⟩, hS⟩)
    · have hE := hE.bool (t := 48) rfl hb
      refine st_pure hE rfl 49 rfl rfl (.pointer (some ⟨b1, 10, none⟩)) (by kernel_rfl) fun a hE => ?_
      refine st_run hE rfl 50 rfl rfl (S x0.Uid_) (ld_box hE hS 0 rfl rfl rfl (by kernel_rfl)) fun a hE => ?_
      refine st_pure hE rfl 51 rfl rfl (.int .i64 (x0.Uid_.length : Int)) (by kernel_rfl) fun a hE => ?_
      refine st_pure hE rfl 52 rfl rfl (.pointer (some ⟨b1, 11, none⟩)) (by kernel_rfl) fun a hE => ?_
      refine st_run hE rfl 53 rfl rfl (S x0.Gid_) (ld_box hE hS 0 rfl rfl rfl (by kernel_rfl)) fun a hE => ?_
      refine st_pure hE rfl 54 rfl rfl (.int .i64 (x0.Gid_.length : Int)) (by kernel_rfl) fun a hE => ?_
      refine st_pure hE rfl 55 rfl rfl (.pointer (some ⟨b1, 12, none⟩)) (by kernel_rfl) fun a hE => ?_
      refine st_run hE rfl 56 rfl rfl (S x0.Muid_) (ld_box hE hS 0 rfl rfl rfl (by kernel_rfl)) fun a hE => ?_
      refine st_pure hE rfl 57 rfl rfl (.int .i64 (x0.Muid_.length : Int)) (by kernel_rfl) fun a hE => ?_
      refine st_pure hE rfl 58 rfl rfl (.int .i64 (maxI (maxI (x0.Uid_.length : Int) (x0.Gid_.length : Int)) (x0.Muid_.length : Int))) (by kernel_rfl) fun a hE => ?_
      refine st_pure hE rfl 59 rfl rfl (.bool (decide ((maxI (maxI (x0.Uid_.length : Int) (x0.Gid_.length : Int)) (x0.Muid_.length : Int)) > 64))) (by kernel_rfl) fun a hE => ?_
      refine st_pure hE rfl 60 rfl rfl (.bool (decide ((maxI (maxI (x0.Uid_.length : Int) (x0.Gid_.length : Int)) (x0.Muid_.length : Int)) > 64))) (by kernel_rfl) fun a hE => ?_
      have hE := hE.re (t := 60) rfl (congrArg Value.bool (or_f (e := (decide ((maxI (maxI (x0.Uid_.length : Int) (x0.Gid_.length : Int)) (x0.Muid_.length : Int)) > 64))) hb))
      exact st_nil (n_then ⟨hE.sel ⟨rfl, trivial⟩, hS⟩)
  rintro a w ⟨hE, hS⟩
  refine st_nil ?_
  refine n_then ?_
  rcases Bool.eq_false_or_eq_true (y6 || (decide ((maxI (maxI (x0.Uid_.length : Int) (x0.Gid_.length : Int)) (x0.Muid_.length : Int)) > 64))) with hb | hb
  · have hF := if_t hF hb
    refine c_true hE rfl hb ?_
    refine wp_seq ?_
    refine r_list ?_
    refine st_pure hE rfl 2 rfl rfl (.int .i64 6) (by kernel_rfl) fun a hE => ?_
    refine st_nil ?_
    refine n_then ?_
    refine wp_ret ?_
    obtain rfl := Option.some.inj hF
    refine r_then ?_
    exact out (rs := [.tmp 2]) (vs := [.int .i64 6]) rfl hE hS (.cons (.tmp rfl) .nil) ⟨rfl, hS.pick [] rfl rfl⟩
  have hF := if_f hF hb
  refine c_false hE rfl hb ?_
  refine wp_skip ?_
  refine n_then ?_
  refine wp_seq ?_
  refine r_list ?_
  refine st_pure hE rfl 2 rfl rfl (.int .i64 0) (by kernel_rfl) fun a hE => ?_
  refine st_nil ?_
  refine n_then ?_
  refine wp_ret ?_
  obtain rfl := Option.some.inj hF
  exact out (rs := [.tmp 2]) (vs := [.int .i64 0]) rfl hE hS (.cons (.tmp rfl) .nil) ⟨rfl, hS.pick [] rfl rfl⟩
/-- filespace/octet.Put -/
theorem W_octet_Put (x0 : Int) (x1 : Int) (r : Str × Int) (hF : octet_Put x0 x1 = some r) (w0 : World)  : Ret Try.prog 56 #[.int .i64 x0, .int .i64 x1] w0 fun v w => v = .tuple #[S r.1, .int .i64 r.2] ∧ Sep [] w0 w [] := by
  refine enter Try.func56 rfl rfl rfl fun a hE => ?_
  have hS := Sep.start [] w0
  unfold octet_Put at hF
  refine wp_seq ?_
  refine r_list ?_
  refine st_pure hE rfl 4 rfl rfl (S []) (by kernel_rfl) fun a hE => ?_
  refine st_pure hE rfl 5 rfl rfl (.int .i64 0) (by kernel_rfl) fun a hE => ?_
  refine st_nil ?_
  refine n_then ?_
  refine wp_seq ?_
  refine wp_seq ?_
  refine r_list ?_
  refine st_pure hE rfl 8 rfl rfl (.int .i64 x1) (by kernel_rfl) fun a hE => ?_
  refine st_pure hE rfl 9 rfl rfl (.bool (decide (x1 < 1))) (by kernel_rfl) fun a hE => ?_
  refine st_pure hE rfl 10 rfl rfl (.bool (decide (x1 < 1))) (by kernel_rfl) fun a hE => ?_
  refine st_cut 3 (fun a w => Env 45 a [(13, .bool ((decide (x1 < 1)) || (decide (x1 > 8)))), (0, .int .i64 x0), (1, .int .i64 x1)] ∧ Sep [] w0 w []) ?_ ?_
  · rcases Bool.eq_false_or_eq_true (decide (x1 < 1)) with hb | hb
    · have hE := hE.bool (t := 10) rfl hb
      refine st_not hE rfl 11 rfl rfl fun a hE => ?_
      refine st_not hE rfl 12 rfl rfl fun a hE => ?_
      refine st_pure hE rfl 13 rfl rfl (.bool true) (by kernel_rfl) fun a hE => ?_
      have hE := hE.re (t := 13) rfl (congrArg Value.bool (or_t (e := (decide (x1 > 8))) hb))
      exact st_nil (n_then ⟨hE.sel ⟨rfl, rfl, rfl, trivial⟩, hS⟩)
    · have hE := hE.bool (t := 10) rfl hb
      refine st_pure hE rfl 11 rfl rfl (.int .i64 x1) (by kernel_rfl) fun a hE => ?_
      refine st_pure hE rfl 12 rfl rfl (.bool (decide (x1 > 8))) (by kernel_rfl) fun a hE => ?_
      refine st_pure hE rfl 13 rfl rfl (.bool (decide (x1 > 8))) (by kernel_rfl) fun a hE => ?_
      have hE := hE.re (t := 13) rfl (congrArg Value.bool (or_f (e := (decide (x1 > 8))) hb))
      exact st_nil (n_then ⟨hE.sel ⟨rfl, rfl, rfl, trivial⟩, hS⟩)
  rintro a w ⟨hE, hS⟩
  refine st_nil ?_
  refine n_then ?_
  rcases Bool.eq_false_or_eq_true ((decide (x1 < 1)) || (decide (x1 > 8))) with hb | hb
  · have hF := if_t hF hb
    refine c_true hE rfl hb ?_
    refine wp_seq ?_
    refine r_list ?_
    refine st_pure hE rfl 4 rfl rfl (S []) (by kernel_rfl) fun a hE => ?_
    refine st_pure hE rfl 5 rfl rfl (.int .i64 1) (by kernel_rfl) fun a hE => ?_
    refine st_nil ?_
    refine n_then ?_
    refine wp_ret ?_
    obtain rfl := Option.some.inj hF
    refine r_then ?_
    exact out (rs := [.tmp 4, .tmp 5]) (vs := [S [], .int .i64 1]) rfl hE hS (.cons (.tmp rfl) (.cons (.tmp rfl) .nil)) ⟨rfl, hS.pick [] rfl rfl⟩
  have hF := if_f hF hb
  refine c_false hE rfl hb ?_
  refine wp_skip ?_
  refine n_then ?_
  refine wp_seq ?_
  refine wp_seq ?_
  refine r_list ?_
  refine st_pure hE rfl 14 rfl rfl (.int .i64 x0) (by kernel_rfl) fun a hE => ?_
  refine st_pure hE rfl 15 rfl rfl (.bool (decide (x0 < 0))) (by kernel_rfl) fun a hE => ?_
  refine st_pure hE rfl 16 rfl rfl (.bool (decide (x0 < 0))) (by kernel_rfl) fun a hE => ?_
  obtain ⟨y1, h1, hF⟩ := bind_some hF
  refine st_cut 10 (fun a w => Env 45 a [(26, .bool y1), (0, .int .i64 x0), (1, .int .i64 x1)] ∧ Sep [] w0 w []) ?_ ?_
  · rcases Bool.eq_false_or_eq_true (decide (x0 < 0)) with hb | hb
    · have hE := hE.bool (t := 16) rfl hb
      have h1 := if_t h1 hb
      refine st_not hE rfl 17 rfl rfl fun a hE => ?_
      refine st_not hE rfl 18 rfl rfl fun a hE => ?_
      refine st_not hE rfl 19 rfl rfl fun a hE => ?_
      refine st_not hE rfl 20 rfl rfl fun a hE => ?_
      refine st_not hE rfl 21 rfl rfl fun a hE => ?_
      refine st_not hE rfl 22 rfl rfl fun a hE => ?_
      refine st_not hE rfl 23 rfl rfl fun a hE => ?_
      refine st_not hE rfl 24 rfl rfl fun a hE => ?_
      refine st_not hE rfl 25 rfl rfl fun a hE => ?_
      refine st_pure hE rfl 26 rfl rfl (.bool true) (by kernel_rfl) fun a hE => ?_
      obtain rfl := Option.some.inj h1
      exact st_nil (n_then ⟨hE.sel ⟨rfl, rfl, rfl, trivial⟩, hS⟩)
    · have hE := hE.bool (t := 16) rfl hb
      have h1 := if_f h1 hb
      refine st_pure hE rfl 17 rfl rfl (.int .i64 x1) (by kernel_rfl) fun a hE => ?_
      refine st_pure hE rfl 18 rfl rfl (.bool (decide (x1 < 8))) (by kernel_rfl) fun a hE => ?_
      refine st_pure hE rfl 19 rfl rfl (.bool (decide (x1 < 8))) (by kernel_rfl) fun a hE => ?_
      obtain ⟨y2, h2, h1⟩ := bind_some h1
      refine st_cut 6 (fun a w => Env 45 a [(25, .bool y2), (0, .int .i64 x0), (1, .int .i64 x1), (13, .bool ((decide (x1 < 1)) || (decide (x1 > 8)))), (14, .int .i64 x0), (15, .bool (decide (x0 < 0))), (16, .bool false), (17, .int .i64 x1), (18, .bool (decide (x1 < 8)))] ∧ Sep [] w0 w []) ?_ ?_
      · rcases Bool.eq_false_or_eq_true (decide (x1 < 8)) with hb | hb
        · have hE := hE.bool (t := 19) rfl hb
          have h2 := if_t h2 hb
          refine st_pure hE rfl 20 rfl rfl (.int .i64 x0) (by kernel_rfl) fun a hE => ?_
          refine st_pure hE rfl 21 rfl rfl (.int .i64 x1) (by kernel_rfl) fun a hE => ?_
          refine st_pure hE rfl 22 rfl rfl (.int .i64 (w64 (8 * x1))) (by kernel_rfl) fun a hE => ?_
          obtain ⟨y3, h3, h2⟩ := bind_some h2
          refine st_run hE rfl 23 rfl rfl (.int .i64 y3) (run_shr rfl (hE.eval rfl) (hE.eval rfl) h3) fun a hE => ?_
          refine st_pure hE rfl 24 rfl rfl (.bool (decide (y3 > 0))) (by kernel_rfl) fun a hE => ?_
          refine st_pure hE rfl 25 rfl rfl (.bool (decide (y3 > 0))) (by kernel_rfl) fun a hE => ?_
          obtain rfl := Option.some.inj h2
          exact st_nil (n_then ⟨hE.sel ⟨rfl, rfl, rfl, rfl, rfl, rfl, rfl, rfl, rfl, trivial⟩, hS⟩)
        · have hE := hE.bool (t := 19) rfl hb
          have h2 := if_f h2 hb
          refine st_not hE rfl 20 rfl rfl fun a hE => ?_
          refine st_not hE rfl 21 rfl rfl fun a hE => ?_
          refine st_not hE rfl 22 rfl rfl fun a hE => ?_
          refine st_not hE rfl 23 rfl rfl fun a hE => ?_
          refine st_not hE rfl 24 rfl rfl fun a hE => ?_
          refine st_pure hE rfl 25 rfl rfl (.bool false) (by kernel_rfl) fun a hE => ?_
          obtain rfl := Option.some.inj h2
          exact st_nil (n_then ⟨hE.sel ⟨rfl, rfl, rfl, rfl, rfl, rfl, rfl, rfl, rfl, trivial⟩, hS⟩)
      rintro a w ⟨hE, hS⟩
      refine st_pure hE rfl 26 rfl rfl (.bool y2) (by kernel_rfl) fun a hE => ?_
      obtain rfl := Option.some.inj h1
      exact st_nil (n_then ⟨hE.sel ⟨rfl, rfl, rfl, trivial⟩, hS⟩)
  rintro a w ⟨hE, hS⟩
  refine st_nil ?_
  refine n_then ?_
  rcases Bool.eq_false_or_eq_true y1 with hb | hb
  · have hF := if_t hF hb
    refine c_true hE rfl hb ?_
    refine wp_seq ?_
    refine r_list ?_
    refine st_pure hE rfl 4 rfl rfl (S []) (by kernel_rfl) fun a hE => ?_
    refine st_pure hE rfl 5 rfl rfl (.int .i64 5) (by kernel_rfl) fun a hE => ?_
    refine st_nil ?_
    refine n_then ?_
    refine wp_ret ?_
    obtain rfl := Option.some.inj hF
    refine r_then ?_
    exact out (rs := [.tmp 4, .tmp 5]) (vs := [S [], .int .i64 5]) rfl hE hS (.cons (.tmp rfl) (.cons (.tmp rfl) .nil)) ⟨rfl, hS.pick [] rfl rfl⟩
  have hF := if_f hF hb
  refine c_false hE rfl hb ?_
  refine wp_skip ?_
  refine n_then ?_
  refine wp_seq ?_
  refine r_list ?_
  refine st_pure hE rfl 27 rfl rfl (.int .i64 x1) (by kernel_rfl) fun a hE => ?_
  obtain ⟨y4, h4, hF⟩ := bind_some hF
  refine go_make (e := 5) (c := 1) (bytes := 1) hE hS rfl 28 rfl rfl ((eI .u8) 0) rfl (elemOK (by kernel_rfl) (by kernel_rfl)) (by kernel_rfl) rfl rfl h4 (make_map h4 (eI .u8)) (make_len h4) fun a w A1 hx hE hS => ?_
  refine st_pure hE rfl 6 rfl rfl (.slice A1 y4.length y4.length) (by kernel_rfl) fun a hE => ?_
  refine st_nil ?_
  refine n_then ?_
  refine wp_seq ?_
  refine wp_seq ?_
  refine r_list ?_
  refine st_pure hE rfl 29 rfl rfl (.slice A1 y4.length y4.length) (by kernel_rfl) fun a hE => ?_
  refine st_pure hE rfl 30 rfl rfl (.int .i64 (y4.length : Int)) (by kernel_rfl) fun a hE => ?_
  refine st_pure hE rfl 31 rfl rfl (.int .i64 0) (by kernel_rfl) fun a hE => ?_
  refine st_nil ?_
  refine n_then ?_
  obtain ⟨o1, g1, hF⟩ := bind_some hF
  refine w_meet (fun a w => ∃ (A2 : Option Addr) (c1 : Nat), Env 45 a [(6, .slice A2 o1.length c1)] ∧ Sep [] w0 w [.row 5 1 A2 o1.length c1 (o1.map (eI .u8))]) ?_ ?_
  · refine wp_block ?_
    refine loop_rule g1 (fun (s1 : (List Int) × Int) a w => ∃ (A3 : Option Addr) (c2 : Nat), Env 45 a [(0, .int .i64 x0), (6, .slice A3 s1.1.length c2), (30, .int .i64 (y4.length : Int)), (31, .int .i64 s1.2)] ∧ Sep [] w0 w [.row 5 1 A3 s1.1.length c2 (s1.1.map (eI .u8))]) ?_ ?_
    · exact ⟨A1, y4.length, hE.sel ⟨rfl, rfl, rfl, rfl, trivial⟩, hS.pick [0] rfl rfl⟩
    rintro s1 a w ⟨A3, c2, hE, hS⟩ st hB1 hD1
    unfold octet_Put_L1 at hB1
    refine wp_seq ?_
    refine r_list ?_
    refine st_pure hE rfl 32 rfl rfl (.bool (decide (s1.2 < (y4.length : Int)))) (by kernel_rfl) fun a hE => ?_
    refine st_nil ?_
    refine n_then ?_
    refine wp_seq ?_
    rcases (Bool.eq_false_or_eq_true (decide (s1.2 < (y4.length : Int)))).symm with hb | hb
    · have hB1 := if_f hB1 hb
      refine c_false hE rfl hb ?_
      refine wp_exit ?_
      refine e_then (e_then (e_in ?_))
      obtain rfl := Option.some.inj hB1
      have hd := hD1 _ rfl
      subst hd
      refine n_then ?_
      exact ⟨A3, c2, hE.sel ⟨rfl, trivial⟩, hS.pick [0] rfl rfl⟩
    have hB1 := if_t hB1 hb
    refine c_true hE rfl hb ?_
    refine wp_skip ?_
    refine n_then ?_
    refine wp_seq ?_
    refine wp_block ?_
    refine wp_seq ?_
    refine r_list ?_
    refine st_pure hE rfl 33 rfl rfl (.int .i64 s1.2) (by kernel_rfl) fun a hE => ?_
    refine st_pure hE rfl 7 rfl rfl (.int .i64 s1.2) (by kernel_rfl) fun a hE => ?_
    refine st_nil ?_
    refine n_then ?_
    refine r_list ?_
    refine st_pure hE rfl 34 rfl rfl (.slice A3 s1.1.length c2) (by kernel_rfl) fun a hE => ?_
    refine st_pure hE rfl 35 rfl rfl (.int .i64 s1.2) (by kernel_rfl) fun a hE => ?_
    refine st_pure hE rfl 36 rfl rfl (.int .i64 x0) (by kernel_rfl) fun a hE => ?_
    refine st_pure hE rfl 37 rfl rfl (.int .i64 s1.2) (by kernel_rfl) fun a hE => ?_
    refine st_pure hE rfl 38 rfl rfl (.int .i64 (w64 (8 * s1.2))) (by kernel_rfl) fun a hE => ?_
    obtain ⟨y5, h5, hB1⟩ := bind_some hB1
    refine st_run hE rfl 39 rfl rfl (.int .i64 y5) (run_shr rfl (hE.eval rfl) (hE.eval rfl) h5) fun a hE => ?_
    refine st_pure hE rfl 40 rfl rfl (.int .u8 (IntKind.u8.wrap y5)) (by kernel_rfl) fun a hE => ?_
    obtain ⟨y6, h6, hB1⟩ := bind_some hB1
    refine go_at (e := 5) (c := 1) hE hS rfl 41 rfl rfl 0 rfl (by kernel_rfl) (by kernel_rfl) rfl rfl rfl .row rfl h6 fun a b1 p1 hA1 hE => ?_
    refine go_put (j := 0) (i := s1.2.toNat) (r := (eI .u8) y6) (r' := (eI .u8) (IntKind.u8.wrap y5)) hE hS rfl rfl 0 rfl rfl rfl rfl hA1 (rows_get h6) rfl (by kernel_rfl) (by kernel_rfl) (by kernel_rfl) (by kernel_rfl) (set_map _ _ _ _) rfl fun w hS => ?_
    rw [set_len s1.1 s1.2.toNat (IntKind.u8.wrap y5)] at hS
    have hE := hE.re (t := 6) (v' := .slice A3 (s1.1.set s1.2.toNat (IntKind.u8.wrap y5)).length c2) rfl (by rw [← set_len])
    have hE := hE.re (t := 34) (v' := .slice A3 (s1.1.set s1.2.toNat (IntKind.u8.wrap y5)).length c2) rfl (by rw [← set_len])
    refine st_nil ?_
    refine n_in ?_
    refine n_then ?_
    refine r_list ?_
    refine st_pure hE rfl 42 rfl rfl (.int .i64 (w64 (s1.2 + 1))) (by kernel_rfl) fun a hE => ?_
    refine st_pure hE rfl 31 rfl rfl (.int .i64 (w64 (s1.2 + 1))) (by kernel_rfl) fun a hE => ?_
    refine st_nil ?_
    obtain rfl := Option.some.inj hB1
    refine n_then ?_
    exact ⟨_, rfl, A3, c2, hE.sel ⟨rfl, rfl, rfl, rfl, trivial⟩, hS.pick [0] rfl rfl⟩
  rintro a w ⟨A2, c1, hE, hS⟩
  refine n_then ?_
  refine wp_seq ?_
  refine r_list ?_
  refine st_pure hE rfl 43 rfl rfl (.slice A2 o1.length c1) (by kernel_rfl) fun a hE => ?_
  refine st_run hE rfl 44 rfl rfl (S (bytesS o1)) (run_bytes_str (e := 5) rfl (by kernel_rfl) (by kernel_rfl) (by kernel_rfl) (hE.eval rfl) (hS.in_ (i := 0) rfl .row).rd.1) fun a hE => ?_
  refine st_pure hE rfl 4 rfl rfl (S (bytesS o1)) (by kernel_rfl) fun a hE => ?_
  refine st_pure hE rfl 5 rfl rfl (.int .i64 0) (by kernel_rfl) fun a hE => ?_
  refine st_nil ?_
  refine n_then ?_
  refine wp_ret ?_
  obtain rfl := Option.some.inj hF
  exact out (rs := [.tmp 4, .tmp 5]) (vs := [S (bytesS o1), .int .i64 0]) rfl hE hS (.cons (.tmp rfl) (.cons (.tmp rfl) .nil)) ⟨rfl, hS.pick [] rfl rfl⟩
/-- filespace/stat.put -/
theorem W_stat_put (x0 : stat_number) (r : Str) (hF : stat_put x0 = some r) (w0 : World)  : Ret Try.prog 54 #[.agg (stat_number.enc x0).toArray] w0 fun v w => v = S r ∧ Sep [] w0 w [] := by
  refine enter Try.func54 rfl rfl rfl fun a hE => ?_
  have hS := Sep.start [] w0
  unfold stat_put at hF
  refine wp_seq ?_
  refine r_list ?_
  refine go_box hE hS rfl 1 rfl rfl 67 (stat_number.enc x0) (fun _ => by kernel_rfl) fun a w b1 hx hE hS => ?_
  refine st_pure hE rfl 2 rfl rfl (S []) (by kernel_rfl) fun a hE => ?_
  refine st_nil ?_
  refine n_then ?_
  refine wp_seq ?_
  refine wp_seq ?_
  refine r_list ?_
  refine st_pure hE rfl 5 rfl rfl (.pointer (some ⟨b1, 0, none⟩)) (by kernel_rfl) fun a hE => ?_
  refine st_run hE rfl 6 rfl rfl (.int .i64 x0.n_) (ld_box hE hS 0 rfl rfl rfl (by kernel_rfl)) fun a hE => ?_
  refine st_pure hE rfl 7 rfl rfl (.bool (x0.n_ == (-1))) (by kernel_rfl) fun a hE => ?_
  refine st_nil ?_
  refine n_then ?_
  rcases Bool.eq_false_or_eq_true (x0.n_ == (-1)) with hb | hb
  · have hF := if_t hF hb
    refine c_true hE rfl hb ?_
    refine wp_seq ?_
    refine r_list ?_
    refine st_pure hE rfl 8 rfl rfl (.pointer (some ⟨b1, 1, none⟩)) (by kernel_rfl) fun a hE => ?_
    refine st_run hE rfl 9 rfl rfl (.int .i64 x0.width_) (ld_box hE hS 0 rfl rfl rfl (by kernel_rfl)) fun a hE => ?_
    obtain ⟨y1, h1, hF⟩ := bind_some hF
    refine go_call hE rfl 10 rfl rfl 66 _ (by kernel_rfl) (W_strings_Repeat [255] x0.width_ _ h1 _ ) fun a v w hR hE => ?_
    obtain ⟨rfl, hq⟩ := hR
    have hS := hS.call hq rfl
    refine st_pure hE rfl 2 rfl rfl (S y1) (by kernel_rfl) fun a hE => ?_
    refine st_nil ?_
    refine n_then ?_
    refine wp_ret ?_
    obtain rfl := Option.some.inj hF
    refine r_then ?_
    exact out (rs := [.tmp 2]) (vs := [S y1]) rfl hE hS (.cons (.tmp rfl) .nil) ⟨rfl, hS.pick [] rfl rfl⟩
  have hF := if_f hF hb
  refine c_false hE rfl hb ?_
  refine wp_skip ?_
  refine n_then ?_
  refine wp_seq ?_
  refine r_list ?_
  refine st_pure hE rfl 12 rfl rfl (.pointer (some ⟨b1, 0, none⟩)) (by kernel_rfl) fun a hE => ?_
  refine st_run hE rfl 13 rfl rfl (.int .i64 x0.n_) (ld_box hE hS 0 rfl rfl rfl (by kernel_rfl)) fun a hE => ?_
  refine st_pure hE rfl 14 rfl rfl (.pointer (some ⟨b1, 1, none⟩)) (by kernel_rfl) fun a hE => ?_
  refine st_run hE rfl 15 rfl rfl (.int .i64 x0.width_) (ld_box hE hS 0 rfl rfl rfl (by kernel_rfl)) fun a hE => ?_
  obtain ⟨y2, h2, hF⟩ := bind_some hF
  refine go_call hE rfl 16 rfl rfl 56 _ (by kernel_rfl) (W_octet_Put x0.n_ x0.width_ _ h2 _ ) fun a v w hR hE => ?_
  obtain ⟨rfl, hq⟩ := hR
  have hS := hS.call hq rfl
  refine st_pure hE rfl 11 rfl rfl (.tuple #[S y2.1, .int .i64 y2.2]) (by kernel_rfl) fun a hE => ?_
  refine st_pure hE rfl 17 rfl rfl (S y2.1) (by kernel_rfl) fun a hE => ?_
  refine st_pure hE rfl 18 rfl rfl (.int .i64 y2.2) (by kernel_rfl) fun a hE => ?_
  refine st_pure hE rfl 3 rfl rfl (S y2.1) (by kernel_rfl) fun a hE => ?_
  refine st_pure hE rfl 4 rfl rfl (.int .i64 y2.2) (by kernel_rfl) fun a hE => ?_
  refine st_nil ?_
  refine n_then ?_
  refine wp_seq ?_
  refine r_list ?_
  refine st_pure hE rfl 19 rfl rfl (S y2.1) (by kernel_rfl) fun a hE => ?_
  refine st_pure hE rfl 2 rfl rfl (S y2.1) (by kernel_rfl) fun a hE => ?_
  refine st_nil ?_
  refine n_then ?_
  refine wp_ret ?_
  obtain rfl := Option.some.inj hF
  exact out (rs := [.tmp 2]) (vs := [S y2.1]) rfl hE hS (.cons (.tmp rfl) .nil) ⟨rfl, hS.pick [] rfl rfl⟩
/-- filespace/octet.PutText -/
theorem W_octet_PutText (x0 : Str) (r : Str × Int) (hF : octet_PutText x0 = some r) (w0 : World)  : Ret Try.prog 55 #[S x0] w0 fun v w => v = .tuple #[S r.1, .int .i64 r.2] ∧ Sep [] w0 w [] := by
  refine enter Try.func55 rfl rfl rfl fun a hE => ?_
  have hS := Sep.start [] w0
  unfold octet_PutText at hF
  refine wp_seq ?_
  refine r_list ?_
  refine st_pure hE rfl 2 rfl rfl (S []) (by kernel_rfl) fun a hE => ?_
  refine st_pure hE rfl 3 rfl rfl (.int .i64 0) (by kernel_rfl) fun a hE => ?_
  refine st_nil ?_
  refine n_then ?_
  refine wp_seq ?_
  refine wp_seq ?_
  refine r_list ?_
  refine st_pure hE rfl 6 rfl rfl (S x0) (by kernel_rfl) fun a hE => ?_
  refine st_pure hE rfl 7 rfl rfl (.int .i64 (x0.length : Int)) (by kernel_rfl) fun a hE => ?_
  refine st_pure hE rfl 8 rfl rfl (.bool (decide ((x0.length : Int) > 65535))) (by kernel_rfl) fun a hE => ?_
  refine st_nil ?_
  refine n_then ?_
  rcases Bool.eq_false_or_eq_true (decide ((x0.length : Int) > 65535)) with hb | hb
  · have hF := if_t hF hb
    refine c_true hE rfl hb ?_
    refine wp_seq ?_
    refine r_list ?_
    refine st_pure hE rfl 2 rfl rfl (S []) (by kernel_rfl) fun a hE => ?_
    refine st_pure hE rfl 3 rfl rfl (.int .i64 4) (by kernel_rfl) fun a hE => ?_
    refine st_nil ?_
    refine n_then ?_
    refine wp_ret ?_
    obtain rfl := Option.some.inj hF
    refine r_then ?_
    exact out (rs := [.tmp 2, .tmp 3]) (vs := [S [], .int .i64 4]) rfl hE hS (.cons (.tmp rfl) (.cons (.tmp rfl) .nil)) ⟨rfl, hS.pick [] rfl rfl⟩
  have hF := if_f hF hb
  refine c_false hE rfl hb ?_
  refine wp_skip ?_
  refine n_then ?_
  refine wp_seq ?_
  refine r_list ?_
  refine st_pure hE rfl 10 rfl rfl (S x0) (by kernel_rfl) fun a hE => ?_
  refine st_pure hE rfl 11 rfl rfl (.int .i64 (x0.length : Int)) (by kernel_rfl) fun a hE => ?_
  obtain ⟨y1, h1, hF⟩ := bind_some hF
  refine go_call hE rfl 12 rfl rfl 56 _ (by kernel_rfl) (W_octet_Put (x0.length : Int) 2 _ h1 _ ) fun a v w hR hE => ?_
  obtain ⟨rfl, hq⟩ := hR
  have hS := hS.call hq rfl
  refine st_pure hE rfl 9 rfl rfl (.tuple #[S y1.1, .int .i64 y1.2]) (by kernel_rfl) fun a hE => ?_
  refine st_pure hE rfl 13 rfl rfl (S y1.1) (by kernel_rfl) fun a hE => ?_
  refine st_pure hE rfl 14 rfl rfl (.int .i64 y1.2) (by kernel_rfl) fun a hE => ?_
  refine st_pure hE rfl 4 rfl rfl (S y1.1) (by kernel_rfl) fun a hE => ?_
  refine st_pure hE rfl 5 rfl rfl (.int .i64 y1.2) (by kernel_rfl) fun a hE => ?_
  refine st_nil ?_
  refine n_then ?_
  refine wp_seq ?_
  refine r_list ?_
  refine st_pure hE rfl 15 rfl rfl (S y1.1) (by kernel_rfl) fun a hE => ?_
  refine st_pure hE rfl 16 rfl rfl (S x0) (by kernel_rfl) fun a hE => ?_
  obtain ⟨y2, h2, hF⟩ := bind_some hF
  refine st_run hE rfl 17 rfl rfl (S y2) (run_cat rfl (hE.eval rfl) (hE.eval rfl) h2) fun a hE => ?_
  refine st_pure hE rfl 18 rfl rfl (.int .i64 y1.2) (by kernel_rfl) fun a hE => ?_
  refine st_pure hE rfl 2 rfl rfl (S y2) (by kernel_rfl) fun a hE => ?_
  refine st_pure hE rfl 3 rfl rfl (.int .i64 y1.2) (by kernel_rfl) fun a hE => ?_
  refine st_nil ?_
  refine n_then ?_
  refine wp_ret ?_
  obtain rfl := Option.some.inj hF
  exact out (rs := [.tmp 2, .tmp 3]) (vs := [S y2, .int .i64 y1.2]) rfl hE hS (.cons (.tmp rfl) (.cons (.tmp rfl) .nil)) ⟨rfl, hS.pick [] rfl rfl⟩
/-- filespace/stat.Put -/
theorem W_stat_Put (x0 : api_Dir) (r : Str × Int) (hF : stat_Put x0 = some r) (w0 : World)  : Ret Try.prog 31 #[.agg (api_Dir.enc x0).toArray] w0 fun v w => v = .tuple #[S r.1, .int .i64 r.2] ∧ Sep [] w0 w [] := by
  refine enter Try.func31 rfl rfl rfl fun a hE => ?_
  have hS := Sep.start [] w0
  unfold stat_Put at hF
  refine wp_seq ?_
  refine r_list ?_
  refine go_box hE hS rfl 1 rfl rfl 27 (api_Dir.enc x0) (fun _ => by kernel_rfl) fun a w b1 hx hE hS => ?_
  refine st_pure hE rfl 2 rfl rfl (S []) (by kernel_rfl) fun a hE => ?_
  refine st_pure hE rfl 3 rfl rfl (.int .i64 0) (by kernel_rfl) fun a hE => ?_
  refine st_nil ?_
  refine n_then ?_
  refine wp_seq ?_
  refine wp_seq ?_
  refine r_list ?_
  refine st_run hE rfl 14 rfl rfl (.agg (api_Dir.enc x0).toArray) (ld_box hE hS 0 rfl rfl rfl (by kernel_rfl)) fun a hE => ?_
  obtain ⟨y1, h1, hF⟩ := bind_some hF
  refine go_call hE rfl 15 rfl rfl 29 _ (by kernel_rfl) (W_stat_Check x0 _ h1 _ ) fun a v w hR hE => ?_
  obtain ⟨rfl, hq⟩ := hR
  have hS := hS.call hq rfl
  refine st_pure hE rfl 4 rfl rfl (.int .i64 y1) (by kernel_rfl) fun a hE => ?_
  refine st_nil ?_
  refine n_then ?_
  refine wp_seq ?_
  refine r_list ?_
  refine st_pure hE rfl 16 rfl rfl (.int .i64 y1) (by kernel_rfl) fun a hE => ?_
  refine st_pure hE rfl 17 rfl rfl (.bool (y1 != 0)) (by kernel_rfl) fun a hE => ?_
  refine st_nil ?_
  refine n_then ?_
  rcases Bool.eq_false_or_eq_true (y1 != 0) with hb | hb
  · have hF := if_t hF hb
    refine c_true hE rfl hb ?_
    refine wp_seq ?_
    refine r_list ?_
    refine st_pure hE rfl 18 rfl rfl (.int .i64 y1) (by kernel_rfl) fun a hE => ?_
    refine st_pure hE rfl 2 rfl rfl (S []) (by kernel_rfl) fun a hE => ?_
    refine st_pure hE rfl 3 rfl rfl (.int .i64 y1) (by kernel_rfl) fun a hE => ?_
    refine st_nil ?_
    refine n_then ?_
    refine wp_ret ?_
    obtain rfl := Option.some.inj hF
    refine r_then ?_
    exact out (rs := [.tmp 2, .tmp 3]) (vs := [S [], .int .i64 y1]) rfl hE hS (.cons (.tmp rfl) (.cons (.tmp rfl) .nil)) ⟨rfl, hS.pick [] rfl rfl⟩
  have hF := if_f hF hb
  refine c_false hE rfl hb ?_
  refine wp_skip ?_
  refine n_then ?_
  refine wp_seq ?_
  refine r_list ?_
  refine st_pure hE rfl 5 rfl rfl (S []) (by kernel_rfl) fun a hE => ?_
  refine st_nil ?_
  refine n_then ?_
  refine wp_seq ?_
  refine wp_seq ?_
  refine r_list ?_
  refine st_run hE rfl 19 rfl rfl (.agg (api_Dir.enc x0).toArray) (ld_box hE hS 0 rfl rfl rfl (by kernel_rfl)) fun a hE => ?_
  obtain ⟨y2, h2, hF⟩ := bind_some hF
  refine go_call hE rfl 20 rfl rfl 49 _ (by kernel_rfl) (W_stat_numbers x0 _ h2 _ ) fun a v w hR hE => ?_
  obtain ⟨A1, c1, rfl, hq⟩ := hR
  have hS := hS.call hq rfl
  refine st_pure hE rfl 21 rfl rfl (.int .i64 (y2.length : Int)) (by kernel_rfl) fun a hE => ?_
  refine st_pure hE rfl 22 rfl rfl (.int .i64 0) (by kernel_rfl) fun a hE => ?_
  refine st_nil ?_
  refine n_then ?_
  obtain ⟨o1, g1, hF⟩ := bind_some hF
  refine w_meet (fun a w => Env 67 a [(1, .pointer (some ⟨b1, 0, none⟩)), (5, S o1)] ∧ Sep [] w0 w [.box b1 27 (api_Dir.enc x0)]) ?_ ?_
  · refine wp_block ?_
    refine loop_rule g1 (fun (s1 : Str × Int) a w => Env 67 a [(1, .pointer (some ⟨b1, 0, none⟩)), (5, S s1.1), (20, .slice A1 y2.length c1), (21, .int .i64 (y2.length : Int)), (22, .int .i64 s1.2)] ∧ Sep [] w0 w [.box b1 27 (api_Dir.enc x0), .row 67 3 A1 y2.length c1 (y2.map stat_number.enc)]) ?_ ?_
    · exact ⟨hE.sel ⟨rfl, rfl, rfl, rfl, rfl, trivial⟩, hS.pick [1, 0] rfl rfl⟩
    rintro s1 a w ⟨hE, hS⟩ st hB1 hD1
    unfold stat_Put_L1 at hB1
    refine wp_seq ?_
    refine r_list ?_
    refine st_pure hE rfl 23 rfl rfl (.bool (decide (s1.2 < (y2.length : Int)))) (by kernel_rfl) fun a hE => ?_
    refine st_nil ?_
    refine n_then ?_
    refine wp_seq ?_
    rcases (Bool.eq_false_or_eq_true (decide (s1.2 < (y2.length : Int)))).symm with hb | hb
    · have hB1 := if_f hB1 hb
      refine c_false hE rfl hb ?_
      refine wp_exit ?_
      refine e_then (e_then (e_in ?_))
      obtain rfl := Option.some.inj hB1
      have hd := hD1 _ rfl
      subst hd
      refine n_then ?_
      exact ⟨hE.sel ⟨rfl, rfl, trivial⟩, hS.pick [0] rfl rfl⟩
    have hB1 := if_t hB1 hb
    refine c_true hE rfl hb ?_
    refine wp_skip ?_
    refine n_then ?_
    refine wp_seq ?_
    refine wp_block ?_
    refine wp_seq ?_
    refine r_list ?_
    obtain ⟨y3, h3, hB1⟩ := bind_some hB1
    refine go_at (e := 67) (c := 3) hE hS rfl 24 rfl rfl 1 rfl (by kernel_rfl) (by kernel_rfl) rfl rfl rfl .row rfl h3 fun a b2 p1 hA1 hE => ?_
    refine st_run hE rfl 25 rfl rfl (.agg (stat_number.enc y3).toArray) (ld_elem (k := 1) (f := stat_number.enc) (j := 0) hE hS rfl rfl rfl .row hA1 h3 rfl (by kernel_rfl)) fun a hE => ?_
    refine go_box hE hS rfl 7 rfl rfl 67 (stat_number.enc (stat_number.mk 0 0 0)) (fun _ => by kernel_rfl) fun a w b3 hx hE hS => ?_
    refine go_set (L' := [.box b3 67 (stat_number.enc y3), .box b1 27 (api_Dir.enc x0), .row 67 3 A1 y2.length c1 (y2.map stat_number.enc)]) hE hS rfl rfl 0 rfl rfl rfl rfl (by kernel_rfl) (by kernel_rfl) (by kernel_rfl) (stat_number.enc y3) (by kernel_rfl) rfl fun w hS => ?_
    refine st_nil ?_
    refine n_then ?_
    refine r_list ?_
    refine st_pure hE rfl 26 rfl rfl (S s1.1) (by kernel_rfl) fun a hE => ?_
    refine st_run hE rfl 27 rfl rfl (.agg (stat_number.enc y3).toArray) (ld_box hE hS 0 rfl rfl rfl (by kernel_rfl)) fun a hE => ?_
    obtain ⟨y4, h4, hB1⟩ := bind_some hB1
    refine go_call hE rfl 28 rfl rfl 54 _ (by kernel_rfl) (W_stat_put y3 _ h4 _ ) fun a v w hR hE => ?_
    obtain ⟨rfl, hq⟩ := hR
    have hS := hS.call hq rfl
    obtain ⟨y5, h5, hB1⟩ := bind_some hB1
    refine st_run hE rfl 29 rfl rfl (S y5) (run_cat rfl (hE.eval rfl) (hE.eval rfl) h5) fun a hE => ?_
    refine st_pure hE rfl 5 rfl rfl (S y5) (by kernel_rfl) fun a hE => ?_
    refine st_nil ?_
    refine n_in ?_
    refine n_then ?_
    refine r_list ?_
    refine st_pure hE rfl 30 rfl rfl (.int .i64 (w64 (s1.2 + 1))) (by kernel_rfl) fun a hE => ?_
    refine st_pure hE rfl 22 rfl rfl (.int .i64 (w64 (s1.2 + 1))) (by kernel_rfl) fun a hE => ?_
    refine st_nil ?_
    obtain rfl := Option.some.inj hB1
    refine n_then ?_
    exact ⟨_, rfl, hE.sel ⟨rfl, rfl, rfl, rfl, rfl, trivial⟩, hS.pick [1, 2] rfl rfl⟩
  rintro a w ⟨hE, hS⟩
  refine n_then ?_
  refine wp_seq ?_
  refine wp_seq ?_
  refine r_list ?_
  refine st_pure hE rfl 31 rfl rfl (.pointer (some ⟨b1, 9, none⟩)) (by kernel_rfl) fun a hE => ?_
  refine st_run hE rfl 32 rfl rfl (S x0.Name_) (ld_box hE hS 0 rfl rfl rfl (by kernel_rfl)) fun a hE => ?_
  refine st_pure hE rfl 33 rfl rfl (.pointer (some ⟨b1, 10, none⟩)) (by kernel_rfl) fun a hE => ?_
  refine st_run hE rfl 34 rfl rfl (S x0.Uid_) (ld_box hE hS 0 rfl rfl rfl (by kernel_rfl)) fun a hE => ?_
  refine st_pure hE rfl 35 rfl rfl (.pointer (some ⟨b1, 11, none⟩)) (by kernel_rfl) fun a hE => ?_
  refine st_run hE rfl 36 rfl rfl (S x0.Gid_) (ld_box hE hS 0 rfl rfl rfl (by kernel_rfl)) fun a hE => ?_
  refine st_pure hE rfl 37 rfl rfl (.pointer (some ⟨b1, 12, none⟩)) (by kernel_rfl) fun a hE => ?_
  refine st_run hE rfl 38 rfl rfl (S x0.Muid_) (ld_box hE hS 0 rfl rfl rfl (by kernel_rfl)) fun a hE => ?_
  refine go_slice hE hS rfl 39 rfl rfl 9 1 4 ([x0.Name_, x0.Uid_, x0.Gid_, x0.Muid_].map eS) (fun _ => by kernel_rfl) rfl (fun r hr => by obtain ⟨_, _, rfl⟩ := List.mem_map.1 hr; rfl) rfl fun a w A2 hx hE hS => ?_
  refine st_pure hE rfl 40 rfl rfl (.int .i64 ([x0.Name_, x0.Uid_, x0.Gid_, x0.Muid_].length : Int)) (by kernel_rfl) fun a hE => ?_
  refine st_pure hE rfl 41 rfl rfl (.int .i64 0) (by kernel_rfl) fun a hE => ?_
  refine st_nil ?_
  refine n_then ?_
  obtain ⟨o2, g2, hF⟩ := bind_some hF
  refine w_meet (fun a w => ∃ s2, o2 = .fall s2 ∧ Env 67 a [(5, S s2)] ∧ Sep [] w0 w []) ?_ ?_
  · refine wp_block ?_
    refine loop_rule g2 (fun (s2 : Str × Int) a w => Env 67 a [(5, S s2.1), (39, .slice A2 [x0.Name_, x0.Uid_, x0.Gid_, x0.Muid_].length 4), (40, .int .i64 ([x0.Name_, x0.Uid_, x0.Gid_, x0.Muid_].length : Int)), (41, .int .i64 s2.2)] ∧ Sep [] w0 w [.row 9 1 A2 [x0.Name_, x0.Uid_, x0.Gid_, x0.Muid_].length 4 ([x0.Name_, x0.Uid_, x0.Gid_, x0.Muid_].map eS)]) ?_ ?_
    · exact ⟨hE.sel ⟨rfl, rfl, rfl, rfl, trivial⟩, hS.pick [0] rfl rfl⟩
    rintro s2 a w ⟨hE, hS⟩ st hB2 hD2
    unfold stat_Put_L2 at hB2
    refine wp_seq ?_
    refine r_list ?_
    refine st_pure hE rfl 42 rfl rfl (.bool (decide (s2.2 < ([x0.Name_, x0.Uid_, x0.Gid_, x0.Muid_].length : Int)))) (by kernel_rfl) fun a hE => ?_
    refine st_nil ?_
    refine n_then ?_
    refine wp_seq ?_
    rcases (Bool.eq_false_or_eq_true (decide (s2.2 < ([x0.Name_, x0.Uid_, x0.Gid_, x0.Muid_].length : Int)))).symm with hb | hb
    · have hB2 := if_f hB2 hb
      refine c_false hE rfl hb ?_
      refine wp_exit ?_
      refine e_then (e_then (e_in ?_))
      obtain rfl := Option.some.inj hB2
      have hd := hD2 _ rfl
      subst hd
      refine n_then ?_
      exact ⟨_, rfl, hE.sel ⟨rfl, trivial⟩, hS.pick [] rfl rfl⟩
    have hB2 := if_t hB2 hb
    refine c_true hE rfl hb ?_
    refine wp_skip ?_
    refine n_then ?_
    refine wp_seq ?_
    refine wp_block ?_
    refine wp_seq ?_
    refine r_list ?_
    obtain ⟨y6, h6, hB2⟩ := bind_some hB2
    refine go_at (e := 9) (c := 1) hE hS rfl 43 rfl rfl 0 rfl (by kernel_rfl) (by kernel_rfl) rfl rfl rfl .row rfl h6 fun a b4 p2 hA2 hE => ?_
    refine st_run hE rfl 44 rfl rfl (S y6) (ld_elem (k := 0) (f := eS) (j := 0) hE hS rfl rfl rfl .row hA2 h6 rfl (by kernel_rfl)) fun a hE => ?_
    refine st_pure hE rfl 9 rfl rfl (S y6) (by kernel_rfl) fun a hE => ?_
    refine st_nil ?_
    refine n_then ?_
    refine wp_seq ?_
    refine r_list ?_
    refine st_pure hE rfl 46 rfl rfl (S y6) (by kernel_rfl) fun a hE => ?_
    obtain ⟨y7, h7, hB2⟩ := bind_some hB2
    refine go_call hE rfl 47 rfl rfl 55 _ (by kernel_rfl) (W_octet_PutText y6 _ h7 _ ) fun a v w hR hE => ?_
    obtain ⟨rfl, hq⟩ := hR
    have hS := hS.call hq rfl
    refine st_pure hE rfl 45 rfl rfl (.tuple #[S y7.1, .int .i64 y7.2]) (by kernel_rfl) fun a hE => ?_
    refine st_pure hE rfl 48 rfl rfl (S y7.1) (by kernel_rfl) fun a hE => ?_
    refine st_pure hE rfl 49 rfl rfl (.int .i64 y7.2) (by kernel_rfl) fun a hE => ?_
    refine st_pure hE rfl 10 rfl rfl (S y7.1) (by kernel_rfl) fun a hE => ?_
    refine st_pure hE rfl 11 rfl rfl (.int .i64 y7.2) (by kernel_rfl) fun a hE => ?_
    refine st_nil ?_
    refine n_then ?_
    refine wp_seq ?_
    refine wp_seq ?_
    refine r_list ?_
    refine st_pure hE rfl 50 rfl rfl (.int .i64 y7.2) (by kernel_rfl) fun a hE => ?_
    refine st_pure hE rfl 51 rfl rfl (.bool (y7.2 != 0)) (by kernel_rfl) fun a hE => ?_
    refine st_nil ?_
    refine n_then ?_
    rcases Bool.eq_false_or_eq_true (y7.2 != 0) with hb | hb
    · have hB2 := if_t hB2 hb
      refine c_true hE rfl hb ?_
      refine wp_seq ?_
      refine r_list ?_
      refine st_pure hE rfl 52 rfl rfl (.int .i64 y7.2) (by kernel_rfl) fun a hE => ?_
      refine st_pure hE rfl 2 rfl rfl (S []) (by kernel_rfl) fun a hE => ?_
      refine st_pure hE rfl 3 rfl rfl (.int .i64 y7.2) (by kernel_rfl) fun a hE => ?_
      refine st_nil ?_
      refine n_then ?_
      refine wp_ret ?_
      obtain rfl := Option.some.inj hB2
      have hd := hD2 _ rfl
      subst hd
      obtain rfl := Option.some.inj hF
      refine r_then (r_in (r_then (r_then (r_in (r_then (r_then ?_))))))
      exact out (rs := [.tmp 2, .tmp 3]) (vs := [S [], .int .i64 y7.2]) rfl hE hS (.cons (.tmp rfl) (.cons (.tmp rfl) .nil)) ⟨rfl, hS.pick [] rfl rfl⟩
    have hB2 := if_f hB2 hb
    refine c_false hE rfl hb ?_
    refine wp_skip ?_
    refine n_then ?_
    refine r_list ?_
    refine st_pure hE rfl 53 rfl rfl (S s2.1) (by kernel_rfl) fun a hE => ?_
    refine st_pure hE rfl 54 rfl rfl (S y7.1) (by kernel_rfl) fun a hE => ?_
    obtain ⟨y8, h8, hB2⟩ := bind_some hB2
    refine st_run hE rfl 55 rfl rfl (S y8) (run_cat rfl (hE.eval rfl) (hE.eval rfl) h8) fun a hE => ?_
    refine st_pure hE rfl 5 rfl rfl (S y8) (by kernel_rfl) fun a hE => ?_
    refine st_nil ?_
    refine n_in ?_
    refine n_then ?_
    refine r_list ?_
    refine st_pure hE rfl 56 rfl rfl (.int .i64 (w64 (s2.2 + 1))) (by kernel_rfl) fun a hE => ?_
    refine st_pure hE rfl 41 rfl rfl (.int .i64 (w64 (s2.2 + 1))) (by kernel_rfl) fun a hE => ?_
    refine st_nil ?_
    obtain rfl := Option.some.inj hB2
    refine n_then ?_
    exact ⟨_, rfl, hE.sel ⟨rfl, rfl, rfl, rfl, trivial⟩, hS.pick [0] rfl rfl⟩
  rintro a w ⟨s2, rfl, hE, hS⟩
  replace hF := hF
  refine n_then ?_
  refine wp_seq ?_
  refine r_list ?_
  refine st_pure hE rfl 58 rfl rfl (S s2) (by kernel_rfl) fun a hE => ?_
  refine st_pure hE rfl 59 rfl rfl (.int .i64 (s2.length : Int)) (by kernel_rfl) fun a hE => ?_
  obtain ⟨y9, h9, hF⟩ := bind_some hF
  refine go_call hE rfl 60 rfl rfl 56 _ (by kernel_rfl) (W_octet_Put (s2.length : Int) 2 _ h9 _ ) fun a v w hR hE => ?_
  obtain ⟨rfl, hq⟩ := hR
  have hS := hS.call hq rfl
  refine st_pure hE rfl 57 rfl rfl (.tuple #[S y9.1, .int .i64 y9.2]) (by kernel_rfl) fun a hE => ?_
  refine st_pure hE rfl 61 rfl rfl (S y9.1) (by kernel_rfl) fun a hE => ?_
  refine st_pure hE rfl 62 rfl rfl (.int .i64 y9.2) (by kernel_rfl) fun a hE => ?_
  refine st_pure hE rfl 12 rfl rfl (S y9.1) (by kernel_rfl) fun a hE => ?_
  refine st_pure hE rfl 13 rfl rfl (.int .i64 y9.2) (by kernel_rfl) fun a hE => ?_
  refine st_nil ?_
  refine n_then ?_
  refine wp_seq ?_
  refine r_list ?_
  refine st_pure hE rfl 63 rfl rfl (S y9.1) (by kernel_rfl) fun a hE => ?_
  refine st_pure hE rfl 64 rfl rfl (S s2) (by kernel_rfl) fun a hE => ?_
  obtain ⟨y10, h10, hF⟩ := bind_some hF
  refine st_run hE rfl 65 rfl rfl (S y10) (run_cat rfl (hE.eval rfl) (hE.eval rfl) h10) fun a hE => ?_
  refine st_pure hE rfl 66 rfl rfl (.int .i64 y9.2) (by kernel_rfl) fun a hE => ?_
  refine st_pure hE rfl 2 rfl rfl (S y10) (by kernel_rfl) fun a hE => ?_
  refine st_pure hE rfl 3 rfl rfl (.int .i64 y9.2) (by kernel_rfl) fun a hE => ?_
  refine st_nil ?_
  refine n_then ?_
  refine wp_ret ?_
  obtain rfl := Option.some.inj hF
  exact out (rs := [.tmp 2, .tmp 3]) (vs := [S y10, .int .i64 y9.2]) rfl hE hS (.cons (.tmp rfl) (.cons (.tmp rfl) .nil)) ⟨rfl, hS.pick [] rfl rfl⟩
/-- filespace/dirread.contents -/
theorem W_dirread_contents (x0 : List api_Dir) (r : Str × (List Int) × Int) (hF : dirread_contents x0 = some r) (w0 : World) {a0 : Option Addr} {k0 : Nat} {F0 : Nat → Prop} (hs0 : In F0 13 a0 x0.length k0 (x0.map api_Dir.enc) w0) : Ret Try.prog 46 #[.slice a0 x0.length k0] w0 fun v w => ∃ (A1 : Option Addr) (c1 : Nat), v = .tuple #[S r.1, .slice A1 r.2.1.length c1, .int .i64 r.2.2] ∧ Sep [] w0 w [.row 3 1 A1 r.2.1.length c1 (r.2.1.map (eI .i64))] := by
  refine enter Try.func46 rfl rfl rfl fun a hE => ?_
  have hS := Sep.start [] w0
  have hS := hS.lent hs0
  unfold dirread_contents at hF
  refine wp_seq ?_
  refine r_list ?_
  refine st_pure hE rfl 2 rfl rfl (S []) (by kernel_rfl) fun a hE => ?_
  refine st_pure hE rfl 3 rfl rfl (.slice none 0 0) (by kernel_rfl) fun a hE => ?_
  refine st_pure hE rfl 4 rfl rfl (.int .i64 0) (by kernel_rfl) fun a hE => ?_
  refine st_nil ?_
  refine n_then ?_
  refine wp_seq ?_
  refine r_list ?_
  refine go_slice hE hS rfl 11 rfl rfl 3 1 1 ([0].map (eI .i64)) (fun _ => by kernel_rfl) rfl (fun r hr => by obtain ⟨_, _, rfl⟩ := List.mem_map.1 hr; rfl) rfl fun a w A1 hx hE hS => ?_
  refine st_pure hE rfl 5 rfl rfl (S []) (by kernel_rfl) fun a hE => ?_
  refine st_pure hE rfl 6 rfl rfl (.slice A1 [0].length 1) (by kernel_rfl) fun a hE => ?_
  refine st_nil ?_
  refine n_then ?_
  refine wp_seq ?_
  refine wp_seq ?_
  refine r_list ?_
  refine st_pure hE rfl 12 rfl rfl (.slice a0 x0.length k0) (by kernel_rfl) fun a hE => ?_
  refine st_pure hE rfl 13 rfl rfl (.int .i64 (x0.length : Int)) (by kernel_rfl) fun a hE => ?_
  refine st_pure hE rfl 14 rfl rfl (.int .i64 0) (by kernel_rfl) fun a hE => ?_
  refine st_nil ?_
  refine n_then ?_
  obtain ⟨o1, g1, hF⟩ := bind_some hF
  refine w_meet (fun a w => ∃ s1, o1 = .fall s1 ∧ ∃ (A2 : Option Addr) (c1 : Nat), Env 37 a [(5, S s1.1), (6, .slice A2 s1.2.length c1)] ∧ Sep [] w0 w [.row 3 1 A2 s1.2.length c1 (s1.2.map (eI .i64))]) ?_ ?_
  · refine wp_block ?_
    refine loop_rule g1 (fun (s1 : Str × (List Int) × Int) a w => ∃ (A3 : Option Addr) (c2 : Nat), Env 37 a [(5, S s1.1), (6, .slice A3 s1.2.1.length c2), (12, .slice a0 x0.length k0), (13, .int .i64 (x0.length : Int)), (14, .int .i64 s1.2.2)] ∧ Sep [] w0 w [.row 3 1 A3 s1.2.1.length c2 (s1.2.1.map (eI .i64)), .ro F0 (Rd F0 13 a0 x0.length k0 (x0.map api_Dir.enc))]) ?_ ?_
    · exact ⟨A1, 1, hE.sel ⟨rfl, rfl, rfl, rfl, rfl, trivial⟩, hS.pick [0, 1] rfl rfl⟩
    rintro s1 a w ⟨A3, c2, hE, hS⟩ st hB1 hD1
    unfold dirread_contents_L1 at hB1
    refine wp_seq ?_
    refine r_list ?_
    refine st_pure hE rfl 15 rfl rfl (.bool (decide (s1.2.2 < (x0.length : Int)))) (by kernel_rfl) fun a hE => ?_
    refine st_nil ?_
    refine n_then ?_
    refine wp_seq ?_
    rcases (Bool.eq_false_or_eq_true (decide (s1.2.2 < (x0.length : Int)))).symm with hb | hb
    · have hB1 := if_f hB1 hb
      refine c_false hE rfl hb ?_
      refine wp_exit ?_
      refine e_then (e_then (e_in ?_))
      obtain rfl := Option.some.inj hB1
      have hd := hD1 _ rfl
      subst hd
      refine n_then ?_
      exact ⟨_, rfl, A3, c2, hE.sel ⟨rfl, rfl, trivial⟩, hS.pick [0] rfl rfl⟩
    have hB1 := if_t hB1 hb
    refine c_true hE rfl hb ?_
    refine wp_skip ?_
    refine n_then ?_
    refine wp_seq ?_
    refine wp_block ?_
    refine wp_seq ?_
    refine r_list ?_
    obtain ⟨y1, h1, hB1⟩ := bind_some hB1
    refine go_at (e := 27) (c := 13) hE hS rfl 16 rfl rfl 1 rfl (by kernel_rfl) (by kernel_rfl) rfl rfl rfl .ro rfl h1 fun a b1 p1 hA1 hE => ?_
    refine st_run hE rfl 17 rfl rfl (.agg (api_Dir.enc y1).toArray) (ld_elem (k := 1) (f := api_Dir.enc) (j := 0) hE hS rfl rfl rfl .ro hA1 h1 rfl (by kernel_rfl)) fun a hE => ?_
    refine go_box hE hS rfl 8 rfl rfl 27 (api_Dir.enc (api_Dir.mk 0 0 (api_Qid.mk 0 0 0) 0 0 0 0 [] [] [] [])) (fun _ => by kernel_rfl) fun a w b2 hx hE hS => ?_
    refine go_set (L' := [.box b2 27 (api_Dir.enc y1), .row 3 1 A3 s1.2.1.length c2 (s1.2.1.map (eI .i64)), .ro F0 (Rd F0 13 a0 x0.length k0 (x0.map api_Dir.enc))]) hE hS rfl rfl 0 rfl rfl rfl rfl (by kernel_rfl) (by kernel_rfl) (by kernel_rfl) (api_Dir.enc y1) (by kernel_rfl) rfl fun w hS => ?_
    refine st_nil ?_
    refine n_then ?_
    refine wp_seq ?_
    refine r_list ?_
    refine st_run hE rfl 19 rfl rfl (.agg (api_Dir.enc y1).toArray) (ld_box hE hS 0 rfl rfl rfl (by kernel_rfl)) fun a hE => ?_
    obtain ⟨y2, h2, hB1⟩ := bind_some hB1
    refine go_call hE rfl 20 rfl rfl 31 _ (by kernel_rfl) (W_stat_Put y1 _ h2 _ ) fun a v w hR hE => ?_
    obtain ⟨rfl, hq⟩ := hR
    have hS := hS.call hq rfl
    refine st_pure hE rfl 18 rfl rfl (.tuple #[S y2.1, .int .i64 y2.2]) (by kernel_rfl) fun a hE => ?_
    refine st_pure hE rfl 21 rfl rfl (S y2.1) (by kernel_rfl) fun a hE => ?_
    refine st_pure hE rfl 22 rfl rfl (.int .i64 y2.2) (by kernel_rfl) fun a hE => ?_
    refine st_pure hE rfl 9 rfl rfl (S y2.1) (by kernel_rfl) fun a hE => ?_
    refine st_pure hE rfl 10 rfl rfl (.int .i64 y2.2) (by kernel_rfl) fun a hE => ?_
    refine st_nil ?_
    refine n_then ?_
    refine wp_seq ?_
    refine wp_seq ?_
    refine r_list ?_
    refine st_pure hE rfl 23 rfl rfl (.int .i64 y2.2) (by kernel_rfl) fun a hE => ?_
    refine st_pure hE rfl 24 rfl rfl (.bool (y2.2 != 0)) (by kernel_rfl) fun a hE => ?_
    refine st_nil ?_
    refine n_then ?_
    rcases Bool.eq_false_or_eq_true (y2.2 != 0) with hb | hb
    · have hB1 := if_t hB1 hb
      refine c_true hE rfl hb ?_
      refine wp_seq ?_
      refine r_list ?_
      refine st_pure hE rfl 25 rfl rfl (.int .i64 y2.2) (by kernel_rfl) fun a hE => ?_
      refine st_pure hE rfl 2 rfl rfl (S []) (by kernel_rfl) fun a hE => ?_
      refine st_pure hE rfl 3 rfl rfl (.slice none 0 0) (by kernel_rfl) fun a hE => ?_
      refine st_pure hE rfl 4 rfl rfl (.int .i64 y2.2) (by kernel_rfl) fun a hE => ?_
      refine st_nil ?_
      refine n_then ?_
      refine wp_ret ?_
      obtain rfl := Option.some.inj hB1
      have hd := hD1 _ rfl
      subst hd
      obtain rfl := Option.some.inj hF
      refine r_then (r_in (r_then (r_then (r_in (r_then (r_then ?_))))))
      have hS := hS.nil_row 3 1
      exact out (rs := [.tmp 2, .tmp 3, .tmp 4]) (vs := [S [], .slice none 0 0, .int .i64 y2.2]) rfl hE hS (.cons (.tmp rfl) (.cons (.tmp rfl) (.cons (.tmp rfl) .nil))) ⟨none, 0, rfl, hS.pick [0] rfl rfl⟩
    have hB1 := if_f hB1 hb
    refine c_false hE rfl hb ?_
    refine wp_skip ?_
    refine n_then ?_
    refine wp_seq ?_
    refine r_list ?_
    refine st_pure hE rfl 26 rfl rfl (S s1.1) (by kernel_rfl) fun a hE => ?_
    refine st_pure hE rfl 27 rfl rfl (S y2.1) (by kernel_rfl) fun a hE => ?_
    obtain ⟨y3, h3, hB1⟩ := bind_some hB1
    refine st_run hE rfl 28 rfl rfl (S y3) (run_cat rfl (hE.eval rfl) (hE.eval rfl) h3) fun a hE => ?_
    refine st_pure hE rfl 5 rfl rfl (S y3) (by kernel_rfl) fun a hE => ?_
    refine st_nil ?_
    refine n_then ?_
    refine r_list ?_
    refine st_pure hE rfl 29 rfl rfl (.slice A3 s1.2.1.length c2) (by kernel_rfl) fun a hE => ?_
    refine st_pure hE rfl 30 rfl rfl (S y3) (by kernel_rfl) fun a hE => ?_
    refine st_pure hE rfl 31 rfl rfl (.int .i64 (y3.length : Int)) (by kernel_rfl) fun a hE => ?_
    refine go_slice hE hS rfl 32 rfl rfl 3 1 1 ([(y3.length : Int)].map (eI .i64)) (fun _ => by kernel_rfl) rfl (fun r hr => by obtain ⟨_, _, rfl⟩ := List.mem_map.1 hr; rfl) rfl fun a w A4 hx hE hS => ?_
    obtain ⟨y4, h4, hB1⟩ := bind_some hB1
    refine go_push (e := 3) (c := 1) (bytes := 8) (f := (eI .i64)) (xs := s1.2.1) (ys := [(y3.length : Int)]) hE hS rfl 33 rfl rfl 2 0 rfl (elemOK (by kernel_rfl) (by kernel_rfl)) rfl rfl rfl rfl .row (fun _ => rfl) (fun _ => rfl) rfl rfl h4 fun a w A5 c3 hE hS => ?_
    refine st_pure hE rfl 6 rfl rfl (.slice A5 y4.length c3) (by kernel_rfl) fun a hE => ?_
    refine st_nil ?_
    refine n_in ?_
    refine n_then ?_
    refine r_list ?_
    refine st_pure hE rfl 34 rfl rfl (.int .i64 (w64 (s1.2.2 + 1))) (by kernel_rfl) fun a hE => ?_
    refine st_pure hE rfl 14 rfl rfl (.int .i64 (w64 (s1.2.2 + 1))) (by kernel_rfl) fun a hE => ?_
    refine st_nil ?_
    obtain rfl := Option.some.inj hB1
    refine n_then ?_
    exact ⟨_, rfl, A5, c3, hE.sel ⟨rfl, rfl, rfl, rfl, rfl, trivial⟩, hS.pick [2, 3] rfl rfl⟩
  rintro a w ⟨s1, rfl, A2, c1, hE, hS⟩
  replace hF := hF
  refine n_then ?_
  refine wp_seq ?_
  refine r_list ?_
  refine st_pure hE rfl 35 rfl rfl (S s1.1) (by kernel_rfl) fun a hE => ?_
  refine st_pure hE rfl 36 rfl rfl (.slice A2 s1.2.length c1) (by kernel_rfl) fun a hE => ?_
  refine st_pure hE rfl 2 rfl rfl (S s1.1) (by kernel_rfl) fun a hE => ?_
  refine st_pure hE rfl 3 rfl rfl (.slice A2 s1.2.length c1) (by kernel_rfl) fun a hE => ?_
  refine st_pure hE rfl 4 rfl rfl (.int .i64 0) (by kernel_rfl) fun a hE => ?_
  refine st_nil ?_
  refine n_then ?_
  refine wp_ret ?_
  obtain rfl := Option.some.inj hF
  exact out (rs := [.tmp 2, .tmp 3, .tmp 4]) (vs := [S s1.1, .slice A2 s1.2.length c1, .int .i64 0]) rfl hE hS (.cons (.tmp rfl) (.cons (.tmp rfl) (.cons (.tmp rfl) .nil))) ⟨A2, c1, rfl, hS.pick [0] rfl rfl⟩
/-- filespace/dirread.Bounds -/
theorem W_dirread_Bounds (x0 : List api_Dir) (r : (List Int) × Int) (hF : dirread_Bounds x0 = some r) (w0 : World) {a0 : Option Addr} {k0 : Nat} {F0 : Nat → Prop} (hs0 : In F0 13 a0 x0.length k0 (x0.map api_Dir.enc) w0) : Ret Try.prog 22 #[.slice a0 x0.length k0] w0 fun v w => ∃ (A0 : Option Addr) (c0 : Nat), v = .tuple #[.slice A0 r.1.length c0, .int .i64 r.2] ∧ Sep [] w0 w [.row 3 1 A0 r.1.length c0 (r.1.map (eI .i64))] := by
  refine enter Try.func22 rfl rfl rfl fun a hE => ?_
  have hS := Sep.start [] w0
  have hS := hS.lent hs0
  unfold dirread_Bounds at hF
  refine wp_seq ?_
  refine r_list ?_
  refine st_pure hE rfl 2 rfl rfl (.slice none 0 0) (by kernel_rfl) fun a hE => ?_
  refine st_pure hE rfl 3 rfl rfl (.int .i64 0) (by kernel_rfl) fun a hE => ?_
  refine st_nil ?_
  refine n_then ?_
  refine wp_seq ?_
  refine r_list ?_
  refine st_pure hE rfl 8 rfl rfl (.slice a0 x0.length k0) (by kernel_rfl) fun a hE => ?_
  obtain ⟨y1, h1, hF⟩ := bind_some hF
  refine go_call hE rfl 9 rfl rfl 46 _ (by kernel_rfl) (W_dirread_contents x0 _ h1 _ (hS.in_ (i := 0) rfl .ro)) fun a v w hR hE => ?_
  obtain ⟨A1, c1, rfl, hq⟩ := hR
  have hS := hS.call hq rfl
  refine st_pure hE rfl 7 rfl rfl (.tuple #[S y1.1, .slice A1 y1.2.1.length c1, .int .i64 y1.2.2]) (by kernel_rfl) fun a hE => ?_
  refine st_pure hE rfl 10 rfl rfl (S y1.1) (by kernel_rfl) fun a hE => ?_
  refine st_pure hE rfl 11 rfl rfl (.slice A1 y1.2.1.length c1) (by kernel_rfl) fun a hE => ?_
  refine st_pure hE rfl 12 rfl rfl (.int .i64 y1.2.2) (by kernel_rfl) fun a hE => ?_
  refine st_pure hE rfl 4 rfl rfl (S y1.1) (by kernel_rfl) fun a hE => ?_
  refine st_pure hE rfl 5 rfl rfl (.slice A1 y1.2.1.length c1) (by kernel_rfl) fun a hE => ?_
  refine st_pure hE rfl 6 rfl rfl (.int .i64 y1.2.2) (by kernel_rfl) fun a hE => ?_
  refine st_nil ?_
  refine n_then ?_
  refine wp_seq ?_
  refine r_list ?_
  refine st_pure hE rfl 13 rfl rfl (.slice A1 y1.2.1.length c1) (by kernel_rfl) fun a hE => ?_
  refine st_pure hE rfl 14 rfl rfl (.int .i64 y1.2.2) (by kernel_rfl) fun a hE => ?_
  refine st_pure hE rfl 2 rfl rfl (.slice A1 y1.2.1.length c1) (by kernel_rfl) fun a hE => ?_
  refine st_pure hE rfl 3 rfl rfl (.int .i64 y1.2.2) (by kernel_rfl) fun a hE => ?_
  refine st_nil ?_
  refine n_then ?_
  refine wp_ret ?_
  obtain rfl := Option.some.inj hF
  exact out (rs := [.tmp 2, .tmp 3]) (vs := [.slice A1 y1.2.1.length c1, .int .i64 y1.2.2]) rfl hE hS (.cons (.tmp rfl) (.cons (.tmp rfl) .nil)) ⟨A1, c1, rfl, hS.pick [0] rfl rfl⟩
end Go.Proofs.Ytglcohgjcjaamaa
