/-
  The walks: each Go function computes what its namesake on plain data says: printed by a program of ours (gosh.py) off the translation.
-/
import Derived.Test.YtglcohgjcjaamaaW2
namespace Go.Proofs.Ytglcohgjcjaamaa
open Go.Rt Go.RowKit

/-- filespace/filespaceref07.little -/
theorem W_ref07_little (x0 : Int) (x1 : Int) (r : Str) (hF : ref07_little x0 x1 = some r) (w0 : World)  : Ret Try.prog 57 #[.int .i64 x0, .int .i64 x1] w0 fun v w => v = S r ∧ Sep [] w0 w [] := by
  refine enter Try.func57 rfl rfl rfl fun a hE => ?_
  have hS := Sep.start [] w0
  unfold ref07_little at hF
  refine wp_seq ?_
  refine r_list ?_
  refine st_pure hE rfl 4 rfl rfl (S []) (by kernel_rfl) fun a hE => ?_
  refine st_nil ?_
  refine n_then ?_
  refine wp_seq ?_
  refine r_list ?_
  refine st_pure hE rfl 5 rfl rfl (S []) (by kernel_rfl) fun a hE => ?_
  refine st_nil ?_
  refine n_then ?_
  refine wp_seq ?_
  refine wp_seq ?_
  refine r_list ?_
  refine st_pure hE rfl 6 rfl rfl (.int .i64 0) (by kernel_rfl) fun a hE => ?_
  refine st_nil ?_
  refine n_then ?_
  obtain ⟨o1, g1, hF⟩ := bind_some hF
  refine w_meet (fun a w => Env 22 a [(5, S o1)] ∧ Sep [] w0 w []) ?_ ?_
  · refine wp_block ?_
    refine loop_rule g1 (fun (s1 : Str × Int) a w => Env 22 a [(0, .int .i64 x0), (1, .int .i64 x1), (5, S s1.1), (6, .int .i64 s1.2)] ∧ Sep [] w0 w []) ?_ ?_
    · exact ⟨hE.sel ⟨rfl, rfl, rfl, rfl, trivial⟩, hS.pick [] rfl rfl⟩
    rintro s1 a w ⟨hE, hS⟩ st hB1 hD1
    unfold ref07_little_L1 at hB1
    refine wp_seq ?_
    refine wp_seq ?_
    refine r_list ?_
    refine st_pure hE rfl 7 rfl rfl (.int .i64 s1.2) (by kernel_rfl) fun a hE => ?_
    refine st_pure hE rfl 8 rfl rfl (.int .i64 x1) (by kernel_rfl) fun a hE => ?_
    refine st_pure hE rfl 9 rfl rfl (.bool (decide (s1.2 < x1))) (by kernel_rfl) fun a hE => ?_
    refine st_nil ?_
    refine n_then ?_
    rcases (Bool.eq_false_or_eq_true (decide (s1.2 < x1))).symm with hb | hb
    · have hB1 := if_f hB1 hb
      refine c_false hE rfl hb ?_
      refine wp_exit ?_
      refine e_then (e_then (e_in ?_))
      obtain rfl := Option.some.inj hB1
      have hd := hD1 _ rfl
      subst hd
      refine n_then ?_
      exact ⟨hE.sel ⟨rfl, trivial⟩, hS.pick [] rfl rfl⟩
    have hB1 := if_t hB1 hb
    refine c_true hE rfl hb ?_
    refine wp_skip ?_
    refine n_then ?_
    refine wp_seq ?_
    refine wp_block ?_
    refine r_list ?_
    refine st_pure hE rfl 12 rfl rfl (S s1.1) (by kernel_rfl) fun a hE => ?_
    refine st_pure hE rfl 13 rfl rfl (.int .i64 x0) (by kernel_rfl) fun a hE => ?_
    refine st_pure hE rfl 14 rfl rfl (.int .i64 s1.2) (by kernel_rfl) fun a hE => ?_
    refine st_pure hE rfl 15 rfl rfl (.int .i64 (w64 (8 * s1.2))) (by kernel_rfl) fun a hE => ?_
    obtain ⟨y1, h1, hB1⟩ := bind_some hB1
    refine st_run hE rfl 16 rfl rfl (.int .i64 y1) (run_shr rfl (hE.eval rfl) (hE.eval rfl) h1) fun a hE => ?_
    refine st_pure hE rfl 17 rfl rfl (.int .u8 (IntKind.u8.wrap y1)) (by kernel_rfl) fun a hE => ?_
    refine go_slice hE hS rfl 18 rfl rfl 5 1 1 ([(IntKind.u8.wrap y1)].map (eI .u8)) (fun _ => by kernel_rfl) rfl (fun r hr => by obtain ⟨_, _, rfl⟩ := List.mem_map.1 hr; rfl) rfl fun a w A1 hx hE hS => ?_
    refine st_run hE rfl 19 rfl rfl (S (bytesS [(IntKind.u8.wrap y1)])) (run_bytes_str (e := 5) rfl (by kernel_rfl) (by kernel_rfl) (by kernel_rfl) (hE.eval rfl) (hS.in_ (i := 0) rfl .row).rd.1) fun a hE => ?_
    obtain ⟨y2, h2, hB1⟩ := bind_some hB1
    refine st_run hE rfl 20 rfl rfl (S y2) (run_cat rfl (hE.eval rfl) (hE.eval rfl) h2) fun a hE => ?_
    refine st_pure hE rfl 5 rfl rfl (S y2) (by kernel_rfl) fun a hE => ?_
    refine st_nil ?_
    refine n_in ?_
    refine n_then ?_
    refine r_list ?_
    refine st_pure hE rfl 10 rfl rfl (.int .i64 s1.2) (by kernel_rfl) fun a hE => ?_
    refine st_pure hE rfl 11 rfl rfl (.int .i64 (w64 (s1.2 + 1))) (by kernel_rfl) fun a hE => ?_
    refine st_pure hE rfl 6 rfl rfl (.int .i64 (w64 (s1.2 + 1))) (by kernel_rfl) fun a hE => ?_
    refine st_nil ?_
    obtain rfl := Option.some.inj hB1
    refine n_then ?_
    exact ⟨_, rfl, hE.sel ⟨rfl, rfl, rfl, rfl, trivial⟩, hS.pick [] rfl rfl⟩
  rintro a w ⟨hE, hS⟩
  refine n_then ?_
  refine wp_seq ?_
  refine r_list ?_
  refine st_pure hE rfl 21 rfl rfl (S o1) (by kernel_rfl) fun a hE => ?_
  refine st_pure hE rfl 4 rfl rfl (S o1) (by kernel_rfl) fun a hE => ?_
  refine st_nil ?_
  refine n_then ?_
  refine wp_ret ?_
  obtain rfl := Option.some.inj hF
  exact out (rs := [.tmp 4]) (vs := [S o1]) rfl hE hS (.cons (.tmp rfl) .nil) ⟨rfl, hS.pick [] rfl rfl⟩
/-- filespace/filespaceref07.counted -/
theorem W_ref07_counted (x0 : Str) (r : Str) (hF : ref07_counted x0 = some r) (w0 : World)  : Ret Try.prog 58 #[S x0] w0 fun v w => v = S r ∧ Sep [] w0 w [] := by
  refine enter Try.func58 rfl rfl rfl fun a hE => ?_
  have hS := Sep.start [] w0
  unfold ref07_counted at hF
  refine wp_seq ?_
  refine r_list ?_
  refine st_pure hE rfl 2 rfl rfl (S []) (by kernel_rfl) fun a hE => ?_
  refine st_nil ?_
  refine n_then ?_
  refine wp_seq ?_
  refine r_list ?_
  refine st_pure hE rfl 3 rfl rfl (S x0) (by kernel_rfl) fun a hE => ?_
  refine st_pure hE rfl 4 rfl rfl (.int .i64 (x0.length : Int)) (by kernel_rfl) fun a hE => ?_
  obtain ⟨y1, h1, hF⟩ := bind_some hF
  refine go_call hE rfl 5 rfl rfl 57 _ (by kernel_rfl) (W_ref07_little (x0.length : Int) 2 _ h1 _ ) fun a v w hR hE => ?_
  obtain ⟨rfl, hq⟩ := hR
  have hS := hS.call hq rfl
  refine st_pure hE rfl 6 rfl rfl (S x0) (by kernel_rfl) fun a hE => ?_
  obtain ⟨y2, h2, hF⟩ := bind_some hF
  refine st_run hE rfl 7 rfl rfl (S y2) (run_cat rfl (hE.eval rfl) (hE.eval rfl) h2) fun a hE => ?_
  refine st_pure hE rfl 2 rfl rfl (S y2) (by kernel_rfl) fun a hE => ?_
  refine st_nil ?_
  refine n_then ?_
  refine wp_ret ?_
  obtain rfl := Option.some.inj hF
  exact out (rs := [.tmp 2]) (vs := [S y2]) rfl hE hS (.cons (.tmp rfl) .nil) ⟨rfl, hS.pick [] rfl rfl⟩
/-- filespace/filespaceref07.Put -/
theorem W_ref07_Put (x0 : api_Dir) (r : Str × Int) (hF : ref07_Put x0 = some r) (w0 : World)  : Ret Try.prog 32 #[.agg (api_Dir.enc x0).toArray] w0 fun v w => v = .tuple #[S r.1, .int .i64 r.2] ∧ Sep [] w0 w [] := by
  refine enter Try.func32 rfl rfl rfl fun a hE => ?_
  have hS := Sep.start [] w0
  unfold ref07_Put at hF
  refine wp_seq ?_
  refine r_list ?_
  refine go_box hE hS rfl 1 rfl rfl 27 (api_Dir.enc x0) (fun _ => by kernel_rfl) fun a w b1 hx hE hS => ?_
  refine st_pure hE rfl 2 rfl rfl (S []) (by kernel_rfl) fun a hE => ?_
  refine st_pure hE rfl 3 rfl rfl (.int .i64 0) (by kernel_rfl) fun a hE => ?_
  refine st_nil ?_
  refine n_then ?_
  refine wp_seq ?_
  refine wp_seq ?_
  refine r_list ?_
  refine st_run hE rfl 7 rfl rfl (.agg (api_Dir.enc x0).toArray) (ld_box hE hS 0 rfl rfl rfl (by kernel_rfl)) fun a hE => ?_
  obtain ⟨y1, h1, hF⟩ := bind_some hF
  refine go_call hE rfl 8 rfl rfl 30 _ (by kernel_rfl) (W_ref07_Check x0 _ h1 _ ) fun a v w hR hE => ?_
  obtain ⟨rfl, hq⟩ := hR
  have hS := hS.call hq rfl
  refine st_pure hE rfl 4 rfl rfl (.int .i64 y1) (by kernel_rfl) fun a hE => ?_
  refine st_nil ?_
  refine n_then ?_
  refine wp_seq ?_
  refine r_list ?_
  refine st_pure hE rfl 9 rfl rfl (.int .i64 y1) (by kernel_rfl) fun a hE => ?_
  refine st_pure hE rfl 10 rfl rfl (.bool (y1 != 0)) (by kernel_rfl) fun a hE => ?_
  refine st_nil ?_
  refine n_then ?_
  rcases Bool.eq_false_or_eq_true (y1 != 0) with hb | hb
  · have hF := if_t hF hb
    refine c_true hE rfl hb ?_
    refine wp_seq ?_
    refine r_list ?_
    refine st_pure hE rfl 11 rfl rfl (.int .i64 y1) (by kernel_rfl) fun a hE => ?_
    refine st_pure hE rfl 2 rfl rfl (S []) (by kernel_rfl) fun a hE => ?_
    refine st_pure hE rfl 3 rfl rfl (.int .i64 y1) (by kernel_rfl) fun a hE => ?_
    refine st_nil ?_
    refine n_then ?_
    refine wp_ret ?_
    obtain rfl := Option.some.inj hF
    refine r_then ?_
    exact out (rs := [.tmp 2, .tmp 3]) (vs := [S [], .int .i64 y1]) rfl hE hS (.cons (.tmp rfl) (.cons (.tmp rfl) .nil)) ⟨rfl, hS.pick [] rfl rfl⟩
  have hF := if_f hF hb
  refine c_false hE rfl hb ?_
  refine wp_skip ?_
  refine n_then ?_
  refine wp_seq ?_
  refine r_mix [] [(0, false), (1, false), (2, false), (3, false), (4, false), (5, false), (6, false), (7, false), (8, false), (9, false), (10, false), (11, false), (12, false), (13, false), (14, false)] rfl (by kernel_rfl) ?_
  have hW := hS
  have hX := hS.now
  refine mx_pure hE rfl rfl 12 rfl rfl (.pointer (some ⟨b1, 2, none⟩)) (by kernel_rfl) fun a hE => ?_
  refine mx_pure hE rfl rfl 13 rfl rfl (.pointer (some ⟨b1, 2, none⟩)) (by kernel_rfl) fun a hE => ?_
  refine mx_run hE rfl rfl 14 rfl rfl (.int .i64 x0.Qid_.Type_) (fun w hx => ld_box hE (hW.ext hx) 0 rfl rfl rfl (by kernel_rfl)) fun a hE => ?_
  obtain ⟨y2, h2, hF⟩ := bind_some hF
  refine mx_call hE rfl rfl 15 rfl rfl 57 _ (by kernel_rfl) (S y2) (fun w hx => (W_ref07_little x0.Qid_.Type_ 1 _ h2 _ ).mono fun u w ⟨hu, hq⟩ => ⟨hu, Ext.of_sep hq⟩) fun a hE => ?_
  refine mx_pure hE rfl rfl 16 rfl rfl (.pointer (some ⟨b1, 2, none⟩)) (by kernel_rfl) fun a hE => ?_
  refine mx_pure hE rfl rfl 17 rfl rfl (.pointer (some ⟨b1, 3, none⟩)) (by kernel_rfl) fun a hE => ?_
  refine mx_run hE rfl rfl 18 rfl rfl (.int .i64 x0.Qid_.Vers_) (fun w hx => ld_box hE (hW.ext hx) 0 rfl rfl rfl (by kernel_rfl)) fun a hE => ?_
  obtain ⟨y3, h3, hF⟩ := bind_some hF
  refine mx_call hE rfl rfl 19 rfl rfl 57 _ (by kernel_rfl) (S y3) (fun w hx => (W_ref07_little x0.Qid_.Vers_ 4 _ h3 _ ).mono fun u w ⟨hu, hq⟩ => ⟨hu, Ext.of_sep hq⟩) fun a hE => ?_
  obtain ⟨y4, h4, hF⟩ := bind_some hF
  refine mx_run hE rfl rfl 20 rfl rfl (S y4) (fun w hx => run_cat rfl (hE.eval rfl) (hE.eval rfl) h4) fun a hE => ?_
  refine mx_pure hE rfl rfl 21 rfl rfl (.pointer (some ⟨b1, 2, none⟩)) (by kernel_rfl) fun a hE => ?_
  refine mx_pure hE rfl rfl 22 rfl rfl (.pointer (some ⟨b1, 4, none⟩)) (by kernel_rfl) fun a hE => ?_
  refine mx_run hE rfl rfl 23 rfl rfl (.int .i64 x0.Qid_.Path_) (fun w hx => ld_box hE (hW.ext hx) 0 rfl rfl rfl (by kernel_rfl)) fun a hE => ?_
  obtain ⟨y5, h5, hF⟩ := bind_some hF
  refine mx_call hE rfl rfl 24 rfl rfl 57 _ (by kernel_rfl) (S y5) (fun w hx => (W_ref07_little x0.Qid_.Path_ 8 _ h5 _ ).mono fun u w ⟨hu, hq⟩ => ⟨hu, Ext.of_sep hq⟩) fun a hE => ?_
  obtain ⟨y6, h6, hF⟩ := bind_some hF
  refine mx_run hE rfl rfl 25 rfl rfl (S y6) (fun w hx => run_cat rfl (hE.eval rfl) (hE.eval rfl) h6) fun a hE => ?_
  refine mx_pure hE rfl rfl 5 rfl rfl (S y6) (by kernel_rfl) fun a hE => ?_
  refine mx_nil fun w hx => ?_
  have hS := hS.ext hx
  refine n_then ?_
  refine wp_seq ?_
  refine r_mix [] [(0, false), (1, false), (2, false), (3, false), (4, false), (5, false), (6, false), (7, false), (8, false), (9, false), (10, false), (11, false), (12, false), (13, false), (14, false), (15, false), (16, false), (17, false), (18, false), (19, false), (20, false), (21, false), (22, false), (23, false), (24, false), (25, false)] rfl (by kernel_rfl) ?_
  have hW := hS
  have hX := hS.now
  refine mx_pure hE rfl rfl 26 rfl rfl (.pointer (some ⟨b1, 0, none⟩)) (by kernel_rfl) fun a hE => ?_
  refine mx_run hE rfl rfl 27 rfl rfl (.int .i64 x0.Type_) (fun w hx => ld_box hE (hW.ext hx) 0 rfl rfl rfl (by kernel_rfl)) fun a hE => ?_
  obtain ⟨y7, h7, hF⟩ := bind_some hF
  refine mx_call hE rfl rfl 28 rfl rfl 57 _ (by kernel_rfl) (S y7) (fun w hx => (W_ref07_little x0.Type_ 2 _ h7 _ ).mono fun u w ⟨hu, hq⟩ => ⟨hu, Ext.of_sep hq⟩) fun a hE => ?_
  refine mx_pure hE rfl rfl 29 rfl rfl (.pointer (some ⟨b1, 1, none⟩)) (by kernel_rfl) fun a hE => ?_
  refine mx_run hE rfl rfl 30 rfl rfl (.int .i64 x0.Dev_) (fun w hx => ld_box hE (hW.ext hx) 0 rfl rfl rfl (by kernel_rfl)) fun a hE => ?_
  obtain ⟨y8, h8, hF⟩ := bind_some hF
  refine mx_call hE rfl rfl 31 rfl rfl 57 _ (by kernel_rfl) (S y8) (fun w hx => (W_ref07_little x0.Dev_ 4 _ h8 _ ).mono fun u w ⟨hu, hq⟩ => ⟨hu, Ext.of_sep hq⟩) fun a hE => ?_
  obtain ⟨y9, h9, hF⟩ := bind_some hF
  refine mx_run hE rfl rfl 32 rfl rfl (S y9) (fun w hx => run_cat rfl (hE.eval rfl) (hE.eval rfl) h9) fun a hE => ?_
  refine mx_pure hE rfl rfl 33 rfl rfl (S y6) (by kernel_rfl) fun a hE => ?_
  obtain ⟨y10, h10, hF⟩ := bind_some hF
  refine mx_run hE rfl rfl 34 rfl rfl (S y10) (fun w hx => run_cat rfl (hE.eval rfl) (hE.eval rfl) h10) fun a hE => ?_
  refine mx_pure hE rfl rfl 35 rfl rfl (.pointer (some ⟨b1, 5, none⟩)) (by kernel_rfl) fun a hE => ?_
  refine mx_run hE rfl rfl 36 rfl rfl (.int .i64 x0.Mode_) (fun w hx => ld_box hE (hW.ext hx) 0 rfl rfl rfl (by kernel_rfl)) fun a hE => ?_
  obtain ⟨y11, h11, hF⟩ := bind_some hF
  refine mx_call hE rfl rfl 37 rfl rfl 57 _ (by kernel_rfl) (S y11) (fun w hx => (W_ref07_little x0.Mode_ 4 _ h11 _ ).mono fun u w ⟨hu, hq⟩ => ⟨hu, Ext.of_sep hq⟩) fun a hE => ?_
  obtain ⟨y12, h12, hF⟩ := bind_some hF
  refine mx_run hE rfl rfl 38 rfl rfl (S y12) (fun w hx => run_cat rfl (hE.eval rfl) (hE.eval rfl) h12) fun a hE => ?_
  refine mx_pure hE rfl rfl 39 rfl rfl (.pointer (some ⟨b1, 6, none⟩)) (by kernel_rfl) fun a hE => ?_
  refine mx_run hE rfl rfl 40 rfl rfl (.int .i64 x0.Atime_) (fun w hx => ld_box hE (hW.ext hx) 0 rfl rfl rfl (by kernel_rfl)) fun a hE => ?_
  obtain ⟨y13, h13, hF⟩ := bind_some hF
  refine mx_call hE rfl rfl 41 rfl rfl 57 _ (by kernel_rfl) (S y13) (fun w hx => (W_ref07_little x0.Atime_ 8 _ h13 _ ).mono fun u w ⟨hu, hq⟩ => ⟨hu, Ext.of_sep hq⟩) fun a hE => ?_
  obtain ⟨y14, h14, hF⟩ := bind_some hF
  refine mx_run hE rfl rfl 42 rfl rfl (S y14) (fun w hx => run_cat rfl (hE.eval rfl) (hE.eval rfl) h14) fun a hE => ?_
  refine mx_pure hE rfl rfl 43 rfl rfl (.pointer (some ⟨b1, 7, none⟩)) (by kernel_rfl) fun a hE => ?_
  refine mx_run hE rfl rfl 44 rfl rfl (.int .i64 x0.Mtime_) (fun w hx => ld_box hE (hW.ext hx) 0 rfl rfl rfl (by kernel_rfl)) fun a hE => ?_
  obtain ⟨y15, h15, hF⟩ := bind_some hF
  refine mx_call hE rfl rfl 45 rfl rfl 57 _ (by kernel_rfl) (S y15) (fun w hx => (W_ref07_little x0.Mtime_ 8 _ h15 _ ).mono fun u w ⟨hu, hq⟩ => ⟨hu, Ext.of_sep hq⟩) fun a hE => ?_
  obtain ⟨y16, h16, hF⟩ := bind_some hF
  refine mx_run hE rfl rfl 46 rfl rfl (S y16) (fun w hx => run_cat rfl (hE.eval rfl) (hE.eval rfl) h16) fun a hE => ?_
  refine mx_pure hE rfl rfl 47 rfl rfl (.pointer (some ⟨b1, 8, none⟩)) (by kernel_rfl) fun a hE => ?_
  refine mx_run hE rfl rfl 48 rfl rfl (.int .i64 x0.Length_) (fun w hx => ld_box hE (hW.ext hx) 0 rfl rfl rfl (by kernel_rfl)) fun a hE => ?_
  obtain ⟨y17, h17, hF⟩ := bind_some hF
  refine mx_call hE rfl rfl 49 rfl rfl 57 _ (by kernel_rfl) (S y17) (fun w hx => (W_ref07_little x0.Length_ 8 _ h17 _ ).mono fun u w ⟨hu, hq⟩ => ⟨hu, Ext.of_sep hq⟩) fun a hE => ?_
  obtain ⟨y18, h18, hF⟩ := bind_some hF
  refine mx_run hE rfl rfl 50 rfl rfl (S y18) (fun w hx => run_cat rfl (hE.eval rfl) (hE.eval rfl) h18) fun a hE => ?_
  refine mx_pure hE rfl rfl 6 rfl rfl (S y18) (by kernel_rfl) fun a hE => ?_
  refine mx_nil fun w hx => ?_
  have hS := hS.ext hx
  refine n_then ?_
  refine wp_seq ?_
  refine r_mix [] [(0, false), (1, false), (2, false), (3, false), (4, false), (5, false), (6, false), (7, false), (8, false), (9, false), (10, false), (11, false), (12, false), (13, false), (14, false), (15, false), (16, false), (17, false)] rfl (by kernel_rfl) ?_
  have hW := hS
  have hX := hS.now
  refine mx_pure hE rfl rfl 51 rfl rfl (S y18) (by kernel_rfl) fun a hE => ?_
  refine mx_pure hE rfl rfl 52 rfl rfl (.pointer (some ⟨b1, 9, none⟩)) (by kernel_rfl) fun a hE => ?_
  refine mx_run hE rfl rfl 53 rfl rfl (S x0.Name_) (fun w hx => ld_box hE (hW.ext hx) 0 rfl rfl rfl (by kernel_rfl)) fun a hE => ?_
  obtain ⟨y19, h19, hF⟩ := bind_some hF
  refine mx_call hE rfl rfl 54 rfl rfl 58 _ (by kernel_rfl) (S y19) (fun w hx => (W_ref07_counted x0.Name_ _ h19 _ ).mono fun u w ⟨hu, hq⟩ => ⟨hu, Ext.of_sep hq⟩) fun a hE => ?_
  obtain ⟨y20, h20, hF⟩ := bind_some hF
  refine mx_run hE rfl rfl 55 rfl rfl (S y20) (fun w hx => run_cat rfl (hE.eval rfl) (hE.eval rfl) h20) fun a hE => ?_
  refine mx_pure hE rfl rfl 56 rfl rfl (.pointer (some ⟨b1, 10, none⟩)) (by kernel_rfl) fun a hE => ?_
  refine mx_run hE rfl rfl 57 rfl rfl (S x0.Uid_) (fun w hx => ld_box hE (hW.ext hx) 0 rfl rfl rfl (by kernel_rfl)) fun a hE => ?_
  obtain ⟨y21, h21, hF⟩ := bind_some hF
  refine mx_call hE rfl rfl 58 rfl rfl 58 _ (by kernel_rfl) (S y21) (fun w hx => (W_ref07_counted x0.Uid_ _ h21 _ ).mono fun u w ⟨hu, hq⟩ => ⟨hu, Ext.of_sep hq⟩) fun a hE => ?_
  obtain ⟨y22, h22, hF⟩ := bind_some hF
  refine mx_run hE rfl rfl 59 rfl rfl (S y22) (fun w hx => run_cat rfl (hE.eval rfl) (hE.eval rfl) h22) fun a hE => ?_
  refine mx_pure hE rfl rfl 60 rfl rfl (.pointer (some ⟨b1, 11, none⟩)) (by kernel_rfl) fun a hE => ?_
  refine mx_run hE rfl rfl 61 rfl rfl (S x0.Gid_) (fun w hx => ld_box hE (hW.ext hx) 0 rfl rfl rfl (by kernel_rfl)) fun a hE => ?_
  obtain ⟨y23, h23, hF⟩ := bind_some hF
  refine mx_call hE rfl rfl 62 rfl rfl 58 _ (by kernel_rfl) (S y23) (fun w hx => (W_ref07_counted x0.Gid_ _ h23 _ ).mono fun u w ⟨hu, hq⟩ => ⟨hu, Ext.of_sep hq⟩) fun a hE => ?_
  obtain ⟨y24, h24, hF⟩ := bind_some hF
  refine mx_run hE rfl rfl 63 rfl rfl (S y24) (fun w hx => run_cat rfl (hE.eval rfl) (hE.eval rfl) h24) fun a hE => ?_
  refine mx_pure hE rfl rfl 64 rfl rfl (.pointer (some ⟨b1, 12, none⟩)) (by kernel_rfl) fun a hE => ?_
  refine mx_run hE rfl rfl 65 rfl rfl (S x0.Muid_) (fun w hx => ld_box hE (hW.ext hx) 0 rfl rfl rfl (by kernel_rfl)) fun a hE => ?_
  obtain ⟨y25, h25, hF⟩ := bind_some hF
  refine mx_call hE rfl rfl 66 rfl rfl 58 _ (by kernel_rfl) (S y25) (fun w hx => (W_ref07_counted x0.Muid_ _ h25 _ ).mono fun u w ⟨hu, hq⟩ => ⟨hu, Ext.of_sep hq⟩) fun a hE => ?_
  obtain ⟨y26, h26, hF⟩ := bind_some hF
  refine mx_run hE rfl rfl 67 rfl rfl (S y26) (fun w hx => run_cat rfl (hE.eval rfl) (hE.eval rfl) h26) fun a hE => ?_
  refine mx_pure hE rfl rfl 6 rfl rfl (S y26) (by kernel_rfl) fun a hE => ?_
  refine mx_nil fun w hx => ?_
  have hS := hS.ext hx
  refine n_then ?_
  refine wp_seq ?_
  refine r_list ?_
  refine st_pure hE rfl 68 rfl rfl (S y26) (by kernel_rfl) fun a hE => ?_
  refine st_pure hE rfl 69 rfl rfl (.int .i64 (y26.length : Int)) (by kernel_rfl) fun a hE => ?_
  obtain ⟨y27, h27, hF⟩ := bind_some hF
  refine go_call hE rfl 70 rfl rfl 57 _ (by kernel_rfl) (W_ref07_little (y26.length : Int) 2 _ h27 _ ) fun a v w hR hE => ?_
  obtain ⟨rfl, hq⟩ := hR
  have hS := hS.call hq rfl
  refine st_pure hE rfl 71 rfl rfl (S y26) (by kernel_rfl) fun a hE => ?_
  obtain ⟨y28, h28, hF⟩ := bind_some hF
  refine st_run hE rfl 72 rfl rfl (S y28) (run_cat rfl (hE.eval rfl) (hE.eval rfl) h28) fun a hE => ?_
  refine st_pure hE rfl 2 rfl rfl (S y28) (by kernel_rfl) fun a hE => ?_
  refine st_pure hE rfl 3 rfl rfl (.int .i64 0) (by kernel_rfl) fun a hE => ?_
  refine st_nil ?_
  refine n_then ?_
  refine wp_ret ?_
  obtain rfl := Option.some.inj hF
  exact out (rs := [.tmp 2, .tmp 3]) (vs := [S y28, .int .i64 0]) rfl hE hS (.cons (.tmp rfl) (.cons (.tmp rfl) .nil)) ⟨rfl, hS.pick [] rfl rfl⟩
/-- filespace/filespaceref11.entries -/
theorem W_ref11_entries (x0 : List api_Dir) (r : (List Str) × Int) (hF : ref11_entries x0 = some r) (w0 : World) {a0 : Option Addr} {k0 : Nat} {F0 : Nat → Prop} (hs0 : In F0 13 a0 x0.length k0 (x0.map api_Dir.enc) w0) : Ret Try.prog 48 #[.slice a0 x0.length k0] w0 fun v w => ∃ (A0 : Option Addr) (c0 : Nat), v = .tuple #[.slice A0 r.1.length c0, .int .i64 r.2] ∧ Sep [] w0 w [.row 9 1 A0 r.1.length c0 (r.1.map eS)] := by
  refine enter Try.func48 rfl rfl rfl fun a hE => ?_
  have hS := Sep.start [] w0
  have hS := hS.lent hs0
  unfold ref11_entries at hF
  refine wp_seq ?_
  refine r_list ?_
  refine st_pure hE rfl 2 rfl rfl (.slice none 0 0) (by kernel_rfl) fun a hE => ?_
  refine st_pure hE rfl 3 rfl rfl (.int .i64 0) (by kernel_rfl) fun a hE => ?_
  refine st_nil ?_
  refine n_then ?_
  refine wp_seq ?_
  refine r_list ?_
  refine st_pure hE rfl 4 rfl rfl (.slice none 0 0) (by kernel_rfl) fun a hE => ?_
  refine st_nil ?_
  refine n_then ?_
  refine wp_seq ?_
  refine wp_seq ?_
  refine r_list ?_
  refine st_pure hE rfl 8 rfl rfl (.slice a0 x0.length k0) (by kernel_rfl) fun a hE => ?_
  refine st_pure hE rfl 9 rfl rfl (.int .i64 (x0.length : Int)) (by kernel_rfl) fun a hE => ?_
  refine st_pure hE rfl 10 rfl rfl (.int .i64 0) (by kernel_rfl) fun a hE => ?_
  refine st_nil ?_
  refine n_then ?_
  obtain ⟨o1, g1, hF⟩ := bind_some hF
  refine w_meet (fun a w => ∃ s1, o1 = .fall s1 ∧ ∃ (A1 : Option Addr) (c1 : Nat), Env 30 a [(4, .slice A1 s1.length c1)] ∧ Sep [] w0 w [.row 9 1 A1 s1.length c1 (s1.map eS)]) ?_ ?_
  · refine wp_block ?_
    refine loop_rule g1 (fun (s1 : (List Str) × Int) a w => ∃ (A2 : Option Addr) (c2 : Nat), Env 30 a [(0, .slice a0 x0.length k0), (4, .slice A2 s1.1.length c2), (9, .int .i64 (x0.length : Int)), (10, .int .i64 s1.2)] ∧ Sep [] w0 w [.ro F0 (Rd F0 13 a0 x0.length k0 (x0.map api_Dir.enc)), .row 9 1 A2 s1.1.length c2 (s1.1.map eS)]) ?_ ?_
    · have hS := hS.nil_row 9 1
      exact ⟨none, 0, hE.sel ⟨rfl, rfl, rfl, rfl, trivial⟩, hS.pick [1, 0] rfl rfl⟩
    rintro s1 a w ⟨A2, c2, hE, hS⟩ st hB1 hD1
    unfold ref11_entries_L1 at hB1
    refine wp_seq ?_
    refine r_list ?_
    refine st_pure hE rfl 11 rfl rfl (.bool (decide (s1.2 < (x0.length : Int)))) (by kernel_rfl) fun a hE => ?_
    refine st_nil ?_
    refine n_then ?_
    refine wp_seq ?_
    rcases (Bool.eq_false_or_eq_true (decide (s1.2 < (x0.length : Int)))).symm with hb | hb
    · have hB1 := if_f hB1 hb
      refine c_false hE rfl hb ?_
      refine wp_exit ?_
      refine e_then (e_then (e_in ?_))
      obtain rfl := Option.some.inj hB1
      have hd := hD1 _ rfl
      subst hd
      refine n_then ?_
      exact ⟨_, rfl, A2, c2, hE.sel ⟨rfl, trivial⟩, hS.pick [1] rfl rfl⟩
    have hB1 := if_t hB1 hb
    refine c_true hE rfl hb ?_
    refine wp_skip ?_
    refine n_then ?_
    refine wp_seq ?_
    refine wp_block ?_
    refine wp_seq ?_
    refine r_list ?_
    refine st_pure hE rfl 12 rfl rfl (.int .i64 s1.2) (by kernel_rfl) fun a hE => ?_
    refine st_pure hE rfl 5 rfl rfl (.int .i64 s1.2) (by kernel_rfl) fun a hE => ?_
    refine st_nil ?_
    refine n_then ?_
    refine wp_seq ?_
    refine r_list ?_
    refine st_pure hE rfl 14 rfl rfl (.slice a0 x0.length k0) (by kernel_rfl) fun a hE => ?_
    refine st_pure hE rfl 15 rfl rfl (.int .i64 s1.2) (by kernel_rfl) fun a hE => ?_
    obtain ⟨y1, h1, hB1⟩ := bind_some hB1
    refine go_at (e := 27) (c := 13) hE hS rfl 16 rfl rfl 0 rfl (by kernel_rfl) (by kernel_rfl) rfl rfl rfl .ro rfl h1 fun a b1 p1 hA1 hE => ?_
    refine st_run hE rfl 17 rfl rfl (.agg (api_Dir.enc y1).toArray) (ld_elem (k := 0) (f := api_Dir.enc) (j := 0) hE hS rfl rfl rfl .ro hA1 h1 rfl (by kernel_rfl)) fun a hE => ?_
    obtain ⟨y2, h2, hB1⟩ := bind_some hB1
    refine go_call hE rfl 18 rfl rfl 32 _ (by kernel_rfl) (W_ref07_Put y1 _ h2 _ ) fun a v w hR hE => ?_
    obtain ⟨rfl, hq⟩ := hR
    have hS := hS.call hq rfl
    refine st_pure hE rfl 13 rfl rfl (.tuple #[S y2.1, .int .i64 y2.2]) (by kernel_rfl) fun a hE => ?_
    refine st_pure hE rfl 19 rfl rfl (S y2.1) (by kernel_rfl) fun a hE => ?_
    refine st_pure hE rfl 20 rfl rfl (.int .i64 y2.2) (by kernel_rfl) fun a hE => ?_
    refine st_pure hE rfl 6 rfl rfl (S y2.1) (by kernel_rfl) fun a hE => ?_
    refine st_pure hE rfl 7 rfl rfl (.int .i64 y2.2) (by kernel_rfl) fun a hE => ?_
    refine st_nil ?_
    refine n_then ?_
    refine wp_seq ?_
    refine wp_seq ?_
    refine r_list ?_
    refine st_pure hE rfl 21 rfl rfl (.int .i64 y2.2) (by kernel_rfl) fun a hE => ?_
    refine st_pure hE rfl 22 rfl rfl (.bool (y2.2 != 0)) (by kernel_rfl) fun a hE => ?_
    refine st_nil ?_
    refine n_then ?_
    rcases Bool.eq_false_or_eq_true (y2.2 != 0) with hb | hb
    · have hB1 := if_t hB1 hb
      refine c_true hE rfl hb ?_
      refine wp_seq ?_
      refine r_list ?_
      refine st_pure hE rfl 23 rfl rfl (.int .i64 y2.2) (by kernel_rfl) fun a hE => ?_
      refine st_pure hE rfl 2 rfl rfl (.slice none 0 0) (by kernel_rfl) fun a hE => ?_
      refine st_pure hE rfl 3 rfl rfl (.int .i64 y2.2) (by kernel_rfl) fun a hE => ?_
      refine st_nil ?_
      refine n_then ?_
      refine wp_ret ?_
      obtain rfl := Option.some.inj hB1
      have hd := hD1 _ rfl
      subst hd
      obtain rfl := Option.some.inj hF
      refine r_then (r_in (r_then (r_then (r_in (r_then (r_then ?_))))))
      have hS := hS.nil_row 9 1
      exact out (rs := [.tmp 2, .tmp 3]) (vs := [.slice none 0 0, .int .i64 y2.2]) rfl hE hS (.cons (.tmp rfl) (.cons (.tmp rfl) .nil)) ⟨none, 0, rfl, hS.pick [0] rfl rfl⟩
    have hB1 := if_f hB1 hb
    refine c_false hE rfl hb ?_
    refine wp_skip ?_
    refine n_then ?_
    refine r_list ?_
    refine st_pure hE rfl 24 rfl rfl (.slice A2 s1.1.length c2) (by kernel_rfl) fun a hE => ?_
    refine st_pure hE rfl 25 rfl rfl (S y2.1) (by kernel_rfl) fun a hE => ?_
    refine go_slice hE hS rfl 26 rfl rfl 9 1 1 ([y2.1].map eS) (fun _ => by kernel_rfl) rfl (fun r hr => by obtain ⟨_, _, rfl⟩ := List.mem_map.1 hr; rfl) rfl fun a w A3 hx hE hS => ?_
    obtain ⟨y3, h3, hB1⟩ := bind_some hB1
    refine go_push (e := 9) (c := 1) (bytes := 16) (f := eS) (xs := s1.1) (ys := [y2.1]) hE hS rfl 27 rfl rfl 2 0 rfl (elemOK (by kernel_rfl) (by kernel_rfl)) rfl rfl rfl rfl .row (fun _ => rfl) (fun _ => rfl) rfl rfl h3 fun a w A4 c3 hE hS => ?_
    refine st_pure hE rfl 4 rfl rfl (.slice A4 y3.length c3) (by kernel_rfl) fun a hE => ?_
    refine st_nil ?_
    refine n_in ?_
    refine n_then ?_
    refine r_list ?_
    refine st_pure hE rfl 28 rfl rfl (.int .i64 (w64 (s1.2 + 1))) (by kernel_rfl) fun a hE => ?_
    refine st_pure hE rfl 10 rfl rfl (.int .i64 (w64 (s1.2 + 1))) (by kernel_rfl) fun a hE => ?_
    refine st_nil ?_
    obtain rfl := Option.some.inj hB1
    refine n_then ?_
    exact ⟨_, rfl, A4, c3, hE.sel ⟨rfl, rfl, rfl, rfl, trivial⟩, hS.pick [1, 2] rfl rfl⟩
  rintro a w ⟨s1, rfl, A1, c1, hE, hS⟩
  replace hF := hF
  refine n_then ?_
  refine wp_seq ?_
  refine r_list ?_
  refine st_pure hE rfl 29 rfl rfl (.slice A1 s1.length c1) (by kernel_rfl) fun a hE => ?_
  refine st_pure hE rfl 2 rfl rfl (.slice A1 s1.length c1) (by kernel_rfl) fun a hE => ?_
  refine st_pure hE rfl 3 rfl rfl (.int .i64 0) (by kernel_rfl) fun a hE => ?_
  refine st_nil ?_
  refine n_then ?_
  refine wp_ret ?_
  obtain rfl := Option.some.inj hF
  exact out (rs := [.tmp 2, .tmp 3]) (vs := [.slice A1 s1.length c1, .int .i64 0]) rfl hE hS (.cons (.tmp rfl) (.cons (.tmp rfl) .nil)) ⟨A1, c1, rfl, hS.pick [0] rfl rfl⟩
/-- filespace/filespaceref11.Page -/
theorem W_ref11_Page (x0 : List api_Dir) (x1 : Int) (x2 : Int) (r : Str × Int) (hF : ref11_Page x0 x1 x2 = some r) (w0 : World) {a0 : Option Addr} {k0 : Nat} {F0 : Nat → Prop} (hs0 : In F0 13 a0 x0.length k0 (x0.map api_Dir.enc) w0) : Ret Try.prog 21 #[.slice a0 x0.length k0, .int .i64 x1, .int .i64 x2] w0 fun v w => v = .tuple #[S r.1, .int .i64 r.2] ∧ Sep [] w0 w [] := by
  refine enter Try.func21 rfl rfl rfl fun a hE => ?_
  have hS := Sep.start [] w0
  have hS := hS.lent hs0
  unfold ref11_Page at hF
  refine wp_seq ?_
  refine r_list ?_
  refine st_pure hE rfl 6 rfl rfl (S []) (by kernel_rfl) fun a hE => ?_
  refine st_pure hE rfl 7 rfl rfl (.int .i64 0) (by kernel_rfl) fun a hE => ?_
  refine st_nil ?_
  refine n_then ?_
  refine wp_seq ?_
  refine wp_seq ?_
  refine r_list ?_
  refine st_pure hE rfl 13 rfl rfl (.int .i64 x1) (by kernel_rfl) fun a hE => ?_
  refine st_pure hE rfl 14 rfl rfl (.bool (decide (x1 < 0))) (by kernel_rfl) fun a hE => ?_
  refine st_pure hE rfl 15 rfl rfl (.bool (decide (x1 < 0))) (by kernel_rfl) fun a hE => ?_
  refine st_cut 3 (fun a w => Env 86 a [(18, .bool ((decide (x1 < 0)) || (decide (x2 < 0)))), (0, .slice a0 x0.length k0), (1, .int .i64 x1), (2, .int .i64 x2)] ∧ Sep [] w0 w [.ro F0 (Rd F0 13 a0 x0.length k0 (x0.map api_Dir.enc))]) ?_ ?_
  · rcases Bool.eq_false_or_eq_true (decide (x1 < 0)) with hb | hb
    · have hE := hE.bool (t := 15) rfl hb
      refine st_not hE rfl 16 rfl rfl fun a hE => ?_
      refine st_not hE rfl 17 rfl rfl fun a hE => ?_
      refine st_pure hE rfl 18 rfl rfl (.bool true) (by kernel_rfl) fun a hE => ?_
      have hE := hE.re (t := 18) rfl (congrArg Value.bool (or_t (e := (decide (x2 < 0))) hb))
      exact st_nil (n_then ⟨hE.sel ⟨rfl, rfl, rfl, rfl, trivial⟩, hS⟩)
    · have hE := hE.bool (t := 15) rfl hb
      refine st_pure hE rfl 16 rfl rfl (.int .i64 x2) (by kernel_rfl) fun a hE => ?_
      refine st_pure hE rfl 17 rfl rfl (.bool (decide (x2 < 0))) (by kernel_rfl) fun a hE => ?_
      refine st_pure hE rfl 18 rfl rfl (.bool (decide (x2 < 0))) (by kernel_rfl) fun a hE => ?_
      have hE := hE.re (t := 18) rfl (congrArg Value.bool (or_f (e := (decide (x2 < 0))) hb))
      exact st_nil (n_then ⟨hE.sel ⟨rfl, rfl, rfl, rfl, trivial⟩, hS⟩)
  rintro a w ⟨hE, hS⟩
  refine st_nil ?_
  refine n_then ?_
  rcases Bool.eq_false_or_eq_true ((decide (x1 < 0)) || (decide (x2 < 0))) with hb | hb
  · have hF := if_t hF hb
    refine c_true hE rfl hb ?_
    refine wp_seq ?_
    refine r_list ?_
    refine st_pure hE rfl 6 rfl rfl (S []) (by kernel_rfl) fun a hE => ?_
    refine st_pure hE rfl 7 rfl rfl (.int .i64 1) (by kernel_rfl) fun a hE => ?_
    refine st_nil ?_
    refine n_then ?_
    refine wp_ret ?_
    obtain rfl := Option.some.inj hF
    refine r_then ?_
    exact out (rs := [.tmp 6, .tmp 7]) (vs := [S [], .int .i64 1]) rfl hE hS (.cons (.tmp rfl) (.cons (.tmp rfl) .nil)) ⟨rfl, hS.pick [] rfl rfl⟩
  have hF := if_f hF hb
  refine c_false hE rfl hb ?_
  refine wp_skip ?_
  refine n_then ?_
  refine wp_seq ?_
  refine r_list ?_
  refine st_pure hE rfl 20 rfl rfl (.slice a0 x0.length k0) (by kernel_rfl) fun a hE => ?_
  obtain ⟨y1, h1, hF⟩ := bind_some hF
  refine go_call hE rfl 21 rfl rfl 48 _ (by kernel_rfl) (W_ref11_entries x0 _ h1 _ (hS.in_ (i := 0) rfl .ro)) fun a v w hR hE => ?_
  obtain ⟨A1, c1, rfl, hq⟩ := hR
  have hS := hS.call hq rfl
  refine st_pure hE rfl 19 rfl rfl (.tuple #[.slice A1 y1.1.length c1, .int .i64 y1.2]) (by kernel_rfl) fun a hE => ?_
  refine st_pure hE rfl 22 rfl rfl (.slice A1 y1.1.length c1) (by kernel_rfl) fun a hE => ?_
  refine st_pure hE rfl 23 rfl rfl (.int .i64 y1.2) (by kernel_rfl) fun a hE => ?_
  refine st_pure hE rfl 8 rfl rfl (.slice A1 y1.1.length c1) (by kernel_rfl) fun a hE => ?_
  refine st_pure hE rfl 9 rfl rfl (.int .i64 y1.2) (by kernel_rfl) fun a hE => ?_
  refine st_nil ?_
  refine n_then ?_
  refine wp_seq ?_
  refine wp_seq ?_
  refine r_list ?_
  refine st_pure hE rfl 24 rfl rfl (.int .i64 y1.2) (by kernel_rfl) fun a hE => ?_
  refine st_pure hE rfl 25 rfl rfl (.bool (y1.2 != 0)) (by kernel_rfl) fun a hE => ?_
  refine st_nil ?_
  refine n_then ?_
  rcases Bool.eq_false_or_eq_true (y1.2 != 0) with hb | hb
  · have hF := if_t hF hb
    refine c_true hE rfl hb ?_
    refine wp_seq ?_
    refine r_list ?_
    refine st_pure hE rfl 26 rfl rfl (.int .i64 y1.2) (by kernel_rfl) fun a hE => ?_
    refine st_pure hE rfl 6 rfl rfl (S []) (by kernel_rfl) fun a hE => ?_
    refine st_pure hE rfl 7 rfl rfl (.int .i64 y1.2) (by kernel_rfl) fun a hE => ?_
    refine st_nil ?_
    refine n_then ?_
    refine wp_ret ?_
    obtain rfl := Option.some.inj hF
    refine r_then ?_
    exact out (rs := [.tmp 6, .tmp 7]) (vs := [S [], .int .i64 y1.2]) rfl hE hS (.cons (.tmp rfl) (.cons (.tmp rfl) .nil)) ⟨rfl, hS.pick [] rfl rfl⟩
  have hF := if_f hF hb
  refine c_false hE rfl hb ?_
  refine wp_skip ?_
  refine n_then ?_
  refine wp_seq ?_
  refine r_list ?_
  refine st_pure hE rfl 10 rfl rfl (.int .i64 0) (by kernel_rfl) fun a hE => ?_
  refine st_pure hE rfl 11 rfl rfl (.int .i64 0) (by kernel_rfl) fun a hE => ?_
  refine st_nil ?_
  refine n_then ?_
  obtain ⟨o1, g1, hF⟩ := bind_some hF
  refine s_meet (fun a w => Env 86 a [(1, .int .i64 x1), (2, .int .i64 x2), (8, .slice A1 y1.1.length c1), (10, .int .i64 o1.1), (11, .int .i64 o1.2)] ∧ Sep [] w0 w [.row 9 1 A1 y1.1.length c1 (y1.1.map eS)]) ?_ ?_
  · refine wp_block ?_
    refine loop_rule g1 (fun (s1 : Int × Int) a w => Env 86 a [(1, .int .i64 x1), (2, .int .i64 x2), (8, .slice A1 y1.1.length c1), (10, .int .i64 s1.1), (11, .int .i64 s1.2)] ∧ Sep [] w0 w [.row 9 1 A1 y1.1.length c1 (y1.1.map eS)]) ?_ ?_
    · exact ⟨hE.sel ⟨rfl, rfl, rfl, rfl, rfl, trivial⟩, hS.pick [0] rfl rfl⟩
    rintro s1 a w ⟨hE, hS⟩ st hB1 hD1
    unfold ref11_Page_L1 at hB1
    refine wp_seq ?_
    refine wp_seq ?_
    refine r_list ?_
    refine st_pure hE rfl 27 rfl rfl (.int .i64 s1.2) (by kernel_rfl) fun a hE => ?_
    refine st_pure hE rfl 28 rfl rfl (.slice A1 y1.1.length c1) (by kernel_rfl) fun a hE => ?_
    refine st_pure hE rfl 29 rfl rfl (.int .i64 (y1.1.length : Int)) (by kernel_rfl) fun a hE => ?_
    refine st_pure hE rfl 30 rfl rfl (.bool (decide (s1.2 < (y1.1.length : Int)))) (by kernel_rfl) fun a hE => ?_
    refine st_pure hE rfl 31 rfl rfl (.bool (decide (s1.2 < (y1.1.length : Int)))) (by kernel_rfl) fun a hE => ?_
    refine st_cut 4 (fun a w => Env 86 a [(35, .bool ((decide (s1.2 < (y1.1.length : Int))) && (decide (s1.1 < x1)))), (1, .int .i64 x1), (2, .int .i64 x2), (8, .slice A1 y1.1.length c1), (10, .int .i64 s1.1), (11, .int .i64 s1.2)] ∧ Sep [] w0 w [.row 9 1 A1 y1.1.length c1 (y1.1.map eS)]) ?_ ?_
    · rcases Bool.eq_false_or_eq_true (decide (s1.2 < (y1.1.length : Int))) with hb | hb
      · have hE := hE.bool (t := 31) rfl hb
        refine st_pure hE rfl 32 rfl rfl (.int .i64 s1.1) (by kernel_rfl) fun a hE => ?_
        refine st_pure hE rfl 33 rfl rfl (.int .i64 x1) (by kernel_rfl) fun a hE => ?_
        refine st_pure hE rfl 34 rfl rfl (.bool (decide (s1.1 < x1))) (by kernel_rfl) fun a hE => ?_
        refine st_pure hE rfl 35 rfl rfl (.bool (decide (s1.1 < x1))) (by kernel_rfl) fun a hE => ?_
        have hE := hE.re (t := 35) rfl (congrArg Value.bool (and_t (e := (decide (s1.1 < x1))) hb))
        exact st_nil (n_then ⟨hE.sel ⟨rfl, rfl, rfl, rfl, rfl, rfl, trivial⟩, hS⟩)
      · have hE := hE.bool (t := 31) rfl hb
        refine st_not hE rfl 32 rfl rfl fun a hE => ?_
        refine st_not hE rfl 33 rfl rfl fun a hE => ?_
        refine st_not hE rfl 34 rfl rfl fun a hE => ?_
        refine st_pure hE rfl 35 rfl rfl (.bool false) (by kernel_rfl) fun a hE => ?_
        have hE := hE.re (t := 35) rfl (congrArg Value.bool (and_f (e := (decide (s1.1 < x1))) hb))
        exact st_nil (n_then ⟨hE.sel ⟨rfl, rfl, rfl, rfl, rfl, rfl, trivial⟩, hS⟩)
    rintro a w ⟨hE, hS⟩
    refine st_nil ?_
    refine n_then ?_
    rcases (Bool.eq_false_or_eq_true ((decide (s1.2 < (y1.1.length : Int))) && (decide (s1.1 < x1)))).symm with hb | hb
    · have hB1 := if_f hB1 hb
      refine c_false hE rfl hb ?_
      refine wp_exit ?_
      refine e_then (e_then (e_in ?_))
      obtain rfl := Option.some.inj hB1
      have hd := hD1 _ rfl
      subst hd
      refine n_then ?_
      exact ⟨hE.sel ⟨rfl, rfl, rfl, rfl, rfl, trivial⟩, hS.pick [0] rfl rfl⟩
    have hB1 := if_t hB1 hb
    refine c_true hE rfl hb ?_
    refine wp_skip ?_
    refine n_then ?_
    refine wp_block ?_
    refine wp_seq ?_
    refine r_list ?_
    refine st_pure hE rfl 36 rfl rfl (.int .i64 s1.1) (by kernel_rfl) fun a hE => ?_
    refine st_pure hE rfl 37 rfl rfl (.slice A1 y1.1.length c1) (by kernel_rfl) fun a hE => ?_
    refine st_pure hE rfl 38 rfl rfl (.int .i64 s1.2) (by kernel_rfl) fun a hE => ?_
    obtain ⟨y2, h2, hB1⟩ := bind_some hB1
    refine go_at (e := 9) (c := 1) hE hS rfl 39 rfl rfl 0 rfl (by kernel_rfl) (by kernel_rfl) rfl rfl rfl .row rfl h2 fun a b1 p1 hA1 hE => ?_
    refine st_run hE rfl 40 rfl rfl (S y2) (ld_elem (k := 0) (f := eS) (j := 0) hE hS rfl rfl rfl .row hA1 h2 rfl (by kernel_rfl)) fun a hE => ?_
    refine st_pure hE rfl 41 rfl rfl (.int .i64 (y2.length : Int)) (by kernel_rfl) fun a hE => ?_
    refine st_pure hE rfl 42 rfl rfl (.int .i64 (w64 (s1.1 + (y2.length : Int)))) (by kernel_rfl) fun a hE => ?_
    refine st_pure hE rfl 10 rfl rfl (.int .i64 (w64 (s1.1 + (y2.length : Int)))) (by kernel_rfl) fun a hE => ?_
    refine st_nil ?_
    refine n_then ?_
    refine r_list ?_
    refine st_pure hE rfl 43 rfl rfl (.int .i64 s1.2) (by kernel_rfl) fun a hE => ?_
    refine st_pure hE rfl 44 rfl rfl (.int .i64 (w64 (s1.2 + 1))) (by kernel_rfl) fun a hE => ?_
    refine st_pure hE rfl 11 rfl rfl (.int .i64 (w64 (s1.2 + 1))) (by kernel_rfl) fun a hE => ?_
    refine st_nil ?_
    refine n_in ?_
    obtain rfl := Option.some.inj hB1
    refine n_then ?_
    exact ⟨_, rfl, hE.sel ⟨rfl, rfl, rfl, rfl, rfl, trivial⟩, hS.pick [0] rfl rfl⟩
  rintro a w ⟨hE, hS⟩
  refine wp_seq ?_
  refine wp_seq ?_
  refine r_list ?_
  refine st_pure hE rfl 45 rfl rfl (.int .i64 o1.1) (by kernel_rfl) fun a hE => ?_
  refine st_pure hE rfl 46 rfl rfl (.int .i64 x1) (by kernel_rfl) fun a hE => ?_
  refine st_pure hE rfl 47 rfl rfl (.bool (o1.1 != x1)) (by kernel_rfl) fun a hE => ?_
  refine st_nil ?_
  refine n_then ?_
  rcases Bool.eq_false_or_eq_true (o1.1 != x1) with hb | hb
  · have hF := if_t hF hb
    refine c_true hE rfl hb ?_
    refine wp_seq ?_
    refine r_list ?_
    refine st_pure hE rfl 6 rfl rfl (S []) (by kernel_rfl) fun a hE => ?_
    refine st_pure hE rfl 7 rfl rfl (.int .i64 20) (by kernel_rfl) fun a hE => ?_
    refine st_nil ?_
    refine n_then ?_
    refine wp_ret ?_
    obtain rfl := Option.some.inj hF
    refine r_then ?_
    exact out (rs := [.tmp 6, .tmp 7]) (vs := [S [], .int .i64 20]) rfl hE hS (.cons (.tmp rfl) (.cons (.tmp rfl) .nil)) ⟨rfl, hS.pick [] rfl rfl⟩
  have hF := if_f hF hb
  refine c_false hE rfl hb ?_
  refine wp_skip ?_
  refine n_then ?_
  refine wp_seq ?_
  refine wp_seq ?_
  refine r_list ?_
  refine st_pure hE rfl 48 rfl rfl (.int .i64 o1.2) (by kernel_rfl) fun a hE => ?_
  refine st_pure hE rfl 49 rfl rfl (.slice A1 y1.1.length c1) (by kernel_rfl) fun a hE => ?_
  refine st_pure hE rfl 50 rfl rfl (.int .i64 (y1.1.length : Int)) (by kernel_rfl) fun a hE => ?_
  refine st_pure hE rfl 51 rfl rfl (.bool (decide (o1.2 < (y1.1.length : Int)))) (by kernel_rfl) fun a hE => ?_
  refine st_pure hE rfl 52 rfl rfl (.bool (decide (o1.2 < (y1.1.length : Int)))) (by kernel_rfl) fun a hE => ?_
  obtain ⟨y3, h3, hF⟩ := bind_some hF
  refine st_cut 8 (fun a w => Env 86 a [(60, .bool y3), (2, .int .i64 x2), (8, .slice A1 y1.1.length c1), (11, .int .i64 o1.2)] ∧ Sep [] w0 w [.row 9 1 A1 y1.1.length c1 (y1.1.map eS)]) ?_ ?_
  · rcases Bool.eq_false_or_eq_true (decide (o1.2 < (y1.1.length : Int))) with hb | hb
    · have hE := hE.bool (t := 52) rfl hb
      have h3 := if_t h3 hb
      refine st_pure hE rfl 53 rfl rfl (.slice A1 y1.1.length c1) (by kernel_rfl) fun a hE => ?_
      refine st_pure hE rfl 54 rfl rfl (.int .i64 o1.2) (by kernel_rfl) fun a hE => ?_
      obtain ⟨y4, h4, h3⟩ := bind_some h3
      refine go_at (e := 9) (c := 1) hE hS rfl 55 rfl rfl 0 rfl (by kernel_rfl) (by kernel_rfl) rfl rfl rfl .row rfl h4 fun a b2 p2 hA2 hE => ?_
      refine st_run hE rfl 56 rfl rfl (S y4) (ld_elem (k := 0) (f := eS) (j := 0) hE hS rfl rfl rfl .row hA2 h4 rfl (by kernel_rfl)) fun a hE => ?_
      refine st_pure hE rfl 57 rfl rfl (.int .i64 (y4.length : Int)) (by kernel_rfl) fun a hE => ?_
      refine st_pure hE rfl 58 rfl rfl (.int .i64 x2) (by kernel_rfl) fun a hE => ?_
      refine st_pure hE rfl 59 rfl rfl (.bool (decide ((y4.length : Int) > x2))) (by kernel_rfl) fun a hE => ?_
      refine st_pure hE rfl 60 rfl rfl (.bool (decide ((y4.length : Int) > x2))) (by kernel_rfl) fun a hE => ?_
      obtain rfl := Option.some.inj h3
      exact st_nil (n_then ⟨hE.sel ⟨rfl, rfl, rfl, rfl, trivial⟩, hS⟩)
    · have hE := hE.bool (t := 52) rfl hb
      have h3 := if_f h3 hb
      refine st_not hE rfl 53 rfl rfl fun a hE => ?_
      refine st_not hE rfl 54 rfl rfl fun a hE => ?_
      refine st_not hE rfl 55 rfl rfl fun a hE => ?_
      refine st_not hE rfl 56 rfl rfl fun a hE => ?_
      refine st_not hE rfl 57 rfl rfl fun a hE => ?_
      refine st_not hE rfl 58 rfl rfl fun a hE => ?_
      refine st_not hE rfl 59 rfl rfl fun a hE => ?_
      refine st_pure hE rfl 60 rfl rfl (.bool false) (by kernel_rfl) fun a hE => ?_
      obtain rfl := Option.some.inj h3
      exact st_nil (n_then ⟨hE.sel ⟨rfl, rfl, rfl, rfl, trivial⟩, hS⟩)
  rintro a w ⟨hE, hS⟩
  refine st_nil ?_
  refine n_then ?_
  rcases Bool.eq_false_or_eq_true y3 with hb | hb
  · have hF := if_t hF hb
    refine c_true hE rfl hb ?_
    refine wp_seq ?_
    refine r_list ?_
    refine st_pure hE rfl 6 rfl rfl (S []) (by kernel_rfl) fun a hE => ?_
    refine st_pure hE rfl 7 rfl rfl (.int .i64 3) (by kernel_rfl) fun a hE => ?_
    refine st_nil ?_
    refine n_then ?_
    refine wp_ret ?_
    obtain rfl := Option.some.inj hF
    refine r_then ?_
    exact out (rs := [.tmp 6, .tmp 7]) (vs := [S [], .int .i64 3]) rfl hE hS (.cons (.tmp rfl) (.cons (.tmp rfl) .nil)) ⟨rfl, hS.pick [] rfl rfl⟩
  have hF := if_f hF hb
  refine c_false hE rfl hb ?_
  refine wp_skip ?_
  refine n_then ?_
  refine wp_seq ?_
  refine r_list ?_
  refine st_pure hE rfl 12 rfl rfl (S []) (by kernel_rfl) fun a hE => ?_
  refine st_nil ?_
  refine n_then ?_
  obtain ⟨o2, g2, hF⟩ := bind_some hF
  refine s_meet (fun a w => Env 86 a [(12, S o2)] ∧ Sep [] w0 w []) ?_ ?_
  · refine wp_block ?_
    refine loop_rule g2 (fun (s2 : Int × Str) a w => Env 86 a [(2, .int .i64 x2), (8, .slice A1 y1.1.length c1), (11, .int .i64 s2.1), (12, S s2.2)] ∧ Sep [] w0 w [.row 9 1 A1 y1.1.length c1 (y1.1.map eS)]) ?_ ?_
    · exact ⟨hE.sel ⟨rfl, rfl, rfl, rfl, trivial⟩, hS.pick [0] rfl rfl⟩
    rintro s2 a w ⟨hE, hS⟩ st hB2 hD2
    unfold ref11_Page_L2 at hB2
    refine wp_seq ?_
    refine wp_seq ?_
    refine r_list ?_
    refine st_pure hE rfl 61 rfl rfl (.int .i64 s2.1) (by kernel_rfl) fun a hE => ?_
    refine st_pure hE rfl 62 rfl rfl (.slice A1 y1.1.length c1) (by kernel_rfl) fun a hE => ?_
    refine st_pure hE rfl 63 rfl rfl (.int .i64 (y1.1.length : Int)) (by kernel_rfl) fun a hE => ?_
    refine st_pure hE rfl 64 rfl rfl (.bool (decide (s2.1 < (y1.1.length : Int)))) (by kernel_rfl) fun a hE => ?_
    refine st_pure hE rfl 65 rfl rfl (.bool (decide (s2.1 < (y1.1.length : Int)))) (by kernel_rfl) fun a hE => ?_
    obtain ⟨y5, h5, hB2⟩ := bind_some hB2
    refine st_cut 11 (fun a w => Env 86 a [(76, .bool y5), (2, .int .i64 x2), (8, .slice A1 y1.1.length c1), (11, .int .i64 s2.1), (12, S s2.2)] ∧ Sep [] w0 w [.row 9 1 A1 y1.1.length c1 (y1.1.map eS)]) ?_ ?_
    · rcases Bool.eq_false_or_eq_true (decide (s2.1 < (y1.1.length : Int))) with hb | hb
      · have hE := hE.bool (t := 65) rfl hb
        have h5 := if_t h5 hb
        refine st_pure hE rfl 66 rfl rfl (.slice A1 y1.1.length c1) (by kernel_rfl) fun a hE => ?_
        refine st_pure hE rfl 67 rfl rfl (.int .i64 s2.1) (by kernel_rfl) fun a hE => ?_
        obtain ⟨y6, h6, h5⟩ := bind_some h5
        refine go_at (e := 9) (c := 1) hE hS rfl 68 rfl rfl 0 rfl (by kernel_rfl) (by kernel_rfl) rfl rfl rfl .row rfl h6 fun a b3 p3 hA3 hE => ?_
        refine st_run hE rfl 69 rfl rfl (S y6) (ld_elem (k := 0) (f := eS) (j := 0) hE hS rfl rfl rfl .row hA3 h6 rfl (by kernel_rfl)) fun a hE => ?_
        refine st_pure hE rfl 70 rfl rfl (.int .i64 (y6.length : Int)) (by kernel_rfl) fun a hE => ?_
        refine st_pure hE rfl 71 rfl rfl (.int .i64 x2) (by kernel_rfl) fun a hE => ?_
        refine st_pure hE rfl 72 rfl rfl (S s2.2) (by kernel_rfl) fun a hE => ?_
        refine st_pure hE rfl 73 rfl rfl (.int .i64 (s2.2.length : Int)) (by kernel_rfl) fun a hE => ?_
        refine st_pure hE rfl 74 rfl rfl (.int .i64 (w64 (x2 - (s2.2.length : Int)))) (by kernel_rfl) fun a hE => ?_
        refine st_pure hE rfl 75 rfl rfl (.bool (decide ((y6.length : Int) ≤ (w64 (x2 - (s2.2.length : Int)))))) (by kernel_rfl) fun a hE => ?_
        refine st_pure hE rfl 76 rfl rfl (.bool (decide ((y6.length : Int) ≤ (w64 (x2 - (s2.2.length : Int)))))) (by kernel_rfl) fun a hE => ?_
        obtain rfl := Option.some.inj h5
        exact st_nil (n_then ⟨hE.sel ⟨rfl, rfl, rfl, rfl, rfl, trivial⟩, hS⟩)
      · have hE := hE.bool (t := 65) rfl hb
        have h5 := if_f h5 hb
        refine st_not hE rfl 66 rfl rfl fun a hE => ?_
        refine st_not hE rfl 67 rfl rfl fun a hE => ?_
        refine st_not hE rfl 68 rfl rfl fun a hE => ?_
        refine st_not hE rfl 69 rfl rfl fun a hE => ?_
        refine st_not hE rfl 70 rfl rfl fun a hE => ?_
        refine st_not hE rfl 71 rfl rfl fun a hE => ?_
        refine st_not hE rfl 72 rfl rfl fun a hE => ?_
        refine st_not hE rfl 73 rfl rfl fun a hE => ?_
        refine st_not hE rfl 74 rfl rfl fun a hE => ?_
        refine st_not hE rfl 75 rfl rfl fun a hE => ?_
        refine st_pure hE rfl 76 rfl rfl (.bool false) (by kernel_rfl) fun a hE => ?_
        obtain rfl := Option.some.inj h5
        exact st_nil (n_then ⟨hE.sel ⟨rfl, rfl, rfl, rfl, rfl, trivial⟩, hS⟩)
    rintro a w ⟨hE, hS⟩
    refine st_nil ?_
    refine n_then ?_
    rcases (Bool.eq_false_or_eq_true y5).symm with hb | hb
    · have hB2 := if_f hB2 hb
      refine c_false hE rfl hb ?_
      refine wp_exit ?_
      refine e_then (e_then (e_in ?_))
      obtain rfl := Option.some.inj hB2
      have hd := hD2 _ rfl
      subst hd
      refine n_then ?_
      exact ⟨hE.sel ⟨rfl, trivial⟩, hS.pick [] rfl rfl⟩
    have hB2 := if_t hB2 hb
    refine c_true hE rfl hb ?_
    refine wp_skip ?_
    refine n_then ?_
    refine wp_block ?_
    refine wp_seq ?_
    refine r_list ?_
    refine st_pure hE rfl 77 rfl rfl (S s2.2) (by kernel_rfl) fun a hE => ?_
    refine st_pure hE rfl 78 rfl rfl (.slice A1 y1.1.length c1) (by kernel_rfl) fun a hE => ?_
    refine st_pure hE rfl 79 rfl rfl (.int .i64 s2.1) (by kernel_rfl) fun a hE => ?_
    obtain ⟨y7, h7, hB2⟩ := bind_some hB2
    refine go_at (e := 9) (c := 1) hE hS rfl 80 rfl rfl 0 rfl (by kernel_rfl) (by kernel_rfl) rfl rfl rfl .row rfl h7 fun a b4 p4 hA4 hE => ?_
    refine st_run hE rfl 81 rfl rfl (S y7) (ld_elem (k := 0) (f := eS) (j := 0) hE hS rfl rfl rfl .row hA4 h7 rfl (by kernel_rfl)) fun a hE => ?_
    obtain ⟨y8, h8, hB2⟩ := bind_some hB2
    refine st_run hE rfl 82 rfl rfl (S y8) (run_cat rfl (hE.eval rfl) (hE.eval rfl) h8) fun a hE => ?_
    refine st_pure hE rfl 12 rfl rfl (S y8) (by kernel_rfl) fun a hE => ?_
    refine st_nil ?_
    refine n_then ?_
    refine r_list ?_
    refine st_pure hE rfl 83 rfl rfl (.int .i64 s2.1) (by kernel_rfl) fun a hE => ?_
    refine st_pure hE rfl 84 rfl rfl (.int .i64 (w64 (s2.1 + 1))) (by kernel_rfl) fun a hE => ?_
    refine st_pure hE rfl 11 rfl rfl (.int .i64 (w64 (s2.1 + 1))) (by kernel_rfl) fun a hE => ?_
    refine st_nil ?_
    refine n_in ?_
    obtain rfl := Option.some.inj hB2
    refine n_then ?_
    exact ⟨_, rfl, hE.sel ⟨rfl, rfl, rfl, rfl, trivial⟩, hS.pick [0] rfl rfl⟩
  rintro a w ⟨hE, hS⟩
  refine wp_seq ?_
  refine r_list ?_
  refine st_pure hE rfl 85 rfl rfl (S o2) (by kernel_rfl) fun a hE => ?_
  refine st_pure hE rfl 6 rfl rfl (S o2) (by kernel_rfl) fun a hE => ?_
  refine st_pure hE rfl 7 rfl rfl (.int .i64 0) (by kernel_rfl) fun a hE => ?_
  refine st_nil ?_
  refine n_then ?_
  refine wp_ret ?_
  obtain rfl := Option.some.inj hF
  exact out (rs := [.tmp 6, .tmp 7]) (vs := [S o2, .int .i64 0]) rfl hE hS (.cons (.tmp rfl) (.cons (.tmp rfl) .nil)) ⟨rfl, hS.pick [] rfl rfl⟩
/-- filespace/filespacelaw11.DirreadPages -/
theorem W_law11_DirreadPages (x0 : List api_Dir) (x1 : Int) (x2 : Int) (r : Bool) (hF : law11_DirreadPages x0 x1 x2 = some r) (w0 : World) {a0 : Option Addr} {k0 : Nat} {F0 : Nat → Prop} (hs0 : In F0 13 a0 x0.length k0 (x0.map api_Dir.enc) w0) : Ret Try.prog 4 #[.slice a0 x0.length k0, .int .i64 x1, .int .i64 x2] w0 fun v w => v = .bool r ∧ Sep [] w0 w [] := by
  refine enter Try.func4 rfl rfl rfl fun a hE => ?_
  have hS := Sep.start [] w0
  have hS := hS.lent hs0
  unfold law11_DirreadPages at hF
  refine wp_seq ?_
  refine r_list ?_
  refine st_pure hE rfl 6 rfl rfl (.bool false) (by kernel_rfl) fun a hE => ?_
  refine st_nil ?_
  refine n_then ?_
  refine wp_seq ?_
  refine wp_seq ?_
  refine r_list ?_
  refine st_pure hE rfl 11 rfl rfl (.slice a0 x0.length k0) (by kernel_rfl) fun a hE => ?_
  obtain ⟨y1, h1, hF⟩ := bind_some hF
  refine go_call hE rfl 12 rfl rfl 19 _ (by kernel_rfl) (W_law11_small x0 _ h1 _ (hS.in_ (i := 0) rfl .ro)) fun a v w hR hE => ?_
  obtain ⟨rfl, hq⟩ := hR
  have hS := hS.call hq rfl
  refine st_pure hE rfl 13 rfl rfl (.bool (!y1)) (by kernel_rfl) fun a hE => ?_
  refine st_nil ?_
  refine n_then ?_
  rcases Bool.eq_false_or_eq_true (!y1) with hb | hb
  · have hF := if_t hF hb
    refine c_true hE rfl hb ?_
    refine wp_seq ?_
    refine r_list ?_
    obtain ⟨y2, h2, hF⟩ := bind_some hF
    refine go_call hE rfl 14 rfl rfl 18 _ (by kernel_rfl) (W_law11_awake  _ h2 _ ) fun a v w hR hE => ?_
    obtain ⟨rfl, hq⟩ := hR
    have hS := hS.call hq rfl
    refine st_pure hE rfl 6 rfl rfl (.bool y2) (by kernel_rfl) fun a hE => ?_
    refine st_nil ?_
    refine n_then ?_
    refine wp_ret ?_
    obtain rfl := Option.some.inj hF
    refine r_then ?_
    exact out (rs := [.tmp 6]) (vs := [.bool y2]) rfl hE hS (.cons (.tmp rfl) .nil) ⟨rfl, hS.pick [] rfl rfl⟩
  have hF := if_f hF hb
  refine c_false hE rfl hb ?_
  refine wp_skip ?_
  refine n_then ?_
  refine wp_seq ?_
  refine r_list ?_
  refine st_pure hE rfl 16 rfl rfl (.slice a0 x0.length k0) (by kernel_rfl) fun a hE => ?_
  refine st_pure hE rfl 17 rfl rfl (.int .i64 x1) (by kernel_rfl) fun a hE => ?_
  refine st_pure hE rfl 18 rfl rfl (.int .i64 x2) (by kernel_rfl) fun a hE => ?_
  obtain ⟨y3, h3, hF⟩ := bind_some hF
  refine go_call hE rfl 19 rfl rfl 20 _ (by kernel_rfl) (W_dirread_Page x0 x1 x2 _ h3 _ (hS.in_ (i := 0) rfl .ro)) fun a v w hR hE => ?_
  obtain ⟨rfl, hq⟩ := hR
  have hS := hS.call hq rfl
  refine st_pure hE rfl 15 rfl rfl (.tuple #[S y3.1, .int .i64 y3.2]) (by kernel_rfl) fun a hE => ?_
  refine st_pure hE rfl 20 rfl rfl (S y3.1) (by kernel_rfl) fun a hE => ?_
  refine st_pure hE rfl 21 rfl rfl (.int .i64 y3.2) (by kernel_rfl) fun a hE => ?_
  refine st_pure hE rfl 7 rfl rfl (S y3.1) (by kernel_rfl) fun a hE => ?_
  refine st_pure hE rfl 8 rfl rfl (.int .i64 y3.2) (by kernel_rfl) fun a hE => ?_
  refine st_nil ?_
  refine n_then ?_
  refine wp_seq ?_
  refine r_list ?_
  refine st_pure hE rfl 23 rfl rfl (.slice a0 x0.length k0) (by kernel_rfl) fun a hE => ?_
  refine st_pure hE rfl 24 rfl rfl (.int .i64 x1) (by kernel_rfl) fun a hE => ?_
  refine st_pure hE rfl 25 rfl rfl (.int .i64 x2) (by kernel_rfl) fun a hE => ?_
  obtain ⟨y4, h4, hF⟩ := bind_some hF
  refine go_call hE rfl 26 rfl rfl 21 _ (by kernel_rfl) (W_ref11_Page x0 x1 x2 _ h4 _ (hS.in_ (i := 0) rfl .ro)) fun a v w hR hE => ?_
  obtain ⟨rfl, hq⟩ := hR
  have hS := hS.call hq rfl
  refine st_pure hE rfl 22 rfl rfl (.tuple #[S y4.1, .int .i64 y4.2]) (by kernel_rfl) fun a hE => ?_
  refine st_pure hE rfl 27 rfl rfl (S y4.1) (by kernel_rfl) fun a hE => ?_
  refine st_pure hE rfl 28 rfl rfl (.int .i64 y4.2) (by kernel_rfl) fun a hE => ?_
  refine st_pure hE rfl 9 rfl rfl (S y4.1) (by kernel_rfl) fun a hE => ?_
  refine st_pure hE rfl 10 rfl rfl (.int .i64 y4.2) (by kernel_rfl) fun a hE => ?_
  refine st_nil ?_
  refine n_then ?_
  refine wp_seq ?_
  refine r_list ?_
  refine st_pure hE rfl 29 rfl rfl (S y3.1) (by kernel_rfl) fun a hE => ?_
  refine st_pure hE rfl 30 rfl rfl (S y4.1) (by kernel_rfl) fun a hE => ?_
  refine st_run hE rfl 31 rfl rfl (.bool (y3.1 == y4.1)) (run_str_eql rfl (hE.eval rfl) (hE.eval rfl)) fun a hE => ?_
  refine st_pure hE rfl 32 rfl rfl (.bool (y3.1 == y4.1)) (by kernel_rfl) fun a hE => ?_
  refine st_cut 4 (fun a w => Env 40 a [(36, .bool ((y3.1 == y4.1) && (y3.2 == y4.2)))] ∧ Sep [] w0 w [.ro F0 (Rd F0 13 a0 x0.length k0 (x0.map api_Dir.enc))]) ?_ ?_
  · rcases Bool.eq_false_or_eq_true (y3.1 == y4.1) with hb | hb
    · have hE := hE.bool (t := 32) rfl hb
      refine st_pure hE rfl 33 rfl rfl (.int .i64 y3.2) (by kernel_rfl) fun a hE => ?_
      refine st_pure hE rfl 34 rfl rfl (.int .i64 y4.2) (by kernel_rfl) fun a hE => ?_
      refine st_pure hE rfl 35 rfl rfl (.bool (y3.2 == y4.2)) (by kernel_rfl) fun a hE => ?_
      refine st_pure hE rfl 36 rfl rfl (.bool (y3.2 == y4.2)) (by kernel_rfl) fun a hE => ?_
      have hE := hE.re (t := 36) rfl (congrArg Value.bool (and_t (e := (y3.2 == y4.2)) hb))
      exact st_nil (n_then ⟨hE.sel ⟨rfl, trivial⟩, hS⟩)
    · have hE := hE.bool (t := 32) rfl hb
      refine st_not hE rfl 33 rfl rfl fun a hE => ?_
      refine st_not hE rfl 34 rfl rfl fun a hE => ?_
      refine st_not hE rfl 35 rfl rfl fun a hE => ?_
      refine st_pure hE rfl 36 rfl rfl (.bool false) (by kernel_rfl) fun a hE => ?_
      have hE := hE.re (t := 36) rfl (congrArg Value.bool (and_f (e := (y3.2 == y4.2)) hb))
      exact st_nil (n_then ⟨hE.sel ⟨rfl, trivial⟩, hS⟩)
  rintro a w ⟨hE, hS⟩
  refine st_pure hE rfl 37 rfl rfl (.bool ((y3.1 == y4.1) && (y3.2 == y4.2))) (by kernel_rfl) fun a hE => ?_
  obtain ⟨y5, h5, hF⟩ := bind_some hF
  refine st_cut 2 (fun a w => Env 40 a [(39, .bool y5)] ∧ Sep [] w0 w [.ro F0 (Rd F0 13 a0 x0.length k0 (x0.map api_Dir.enc))]) ?_ ?_
  · rcases Bool.eq_false_or_eq_true ((y3.1 == y4.1) && (y3.2 == y4.2)) with hb | hb
    · have hE := hE.bool (t := 37) rfl hb
      have h5 := if_t h5 hb
      obtain ⟨y6, h6, h5⟩ := bind_some h5
      refine go_call hE rfl 38 rfl rfl 18 _ (by kernel_rfl) (W_law11_awake  _ h6 _ ) fun a v w hR hE => ?_
      obtain ⟨rfl, hq⟩ := hR
      have hS := hS.call hq rfl
      refine st_pure hE rfl 39 rfl rfl (.bool y6) (by kernel_rfl) fun a hE => ?_
      obtain rfl := Option.some.inj h5
      exact st_nil (n_then ⟨hE.sel ⟨rfl, trivial⟩, hS⟩)
    · have hE := hE.bool (t := 37) rfl hb
      have h5 := if_f h5 hb
      refine st_not hE rfl 38 rfl rfl fun a hE => ?_
      refine st_pure hE rfl 39 rfl rfl (.bool false) (by kernel_rfl) fun a hE => ?_
      obtain rfl := Option.some.inj h5
      exact st_nil (n_then ⟨hE.sel ⟨rfl, trivial⟩, hS⟩)
  rintro a w ⟨hE, hS⟩
  refine st_pure hE rfl 6 rfl rfl (.bool y5) (by kernel_rfl) fun a hE => ?_
  refine st_nil ?_
  refine n_then ?_
  refine wp_ret ?_
  obtain rfl := Option.some.inj hF
  exact out (rs := [.tmp 6]) (vs := [.bool y5]) rfl hE hS (.cons (.tmp rfl) .nil) ⟨rfl, hS.pick [] rfl rfl⟩
/-- filespace/filespaceref11.Bounds -/
theorem W_ref11_Bounds (x0 : List api_Dir) (r : (List Int) × Int) (hF : ref11_Bounds x0 = some r) (w0 : World) {a0 : Option Addr} {k0 : Nat} {F0 : Nat → Prop} (hs0 : In F0 13 a0 x0.length k0 (x0.map api_Dir.enc) w0) : Ret Try.prog 23 #[.slice a0 x0.length k0] w0 fun v w => ∃ (A0 : Option Addr) (c0 : Nat), v = .tuple #[.slice A0 r.1.length c0, .int .i64 r.2] ∧ Sep [] w0 w [.row 3 1 A0 r.1.length c0 (r.1.map (eI .i64))] := by
  refine enter Try.func23 rfl rfl rfl fun a hE => ?_
  have hS := Sep.start [] w0
  have hS := hS.lent hs0
  unfold ref11_Bounds at hF
  refine wp_seq ?_
  refine r_list ?_
  refine st_pure hE rfl 2 rfl rfl (.slice none 0 0) (by kernel_rfl) fun a hE => ?_
  refine st_pure hE rfl 3 rfl rfl (.int .i64 0) (by kernel_rfl) fun a hE => ?_
  refine st_nil ?_
  refine n_then ?_
  refine wp_seq ?_
  refine r_list ?_
  refine st_pure hE rfl 9 rfl rfl (.slice a0 x0.length k0) (by kernel_rfl) fun a hE => ?_
  obtain ⟨y1, h1, hF⟩ := bind_some hF
  refine go_call hE rfl 10 rfl rfl 48 _ (by kernel_rfl) (W_ref11_entries x0 _ h1 _ (hS.in_ (i := 0) rfl .ro)) fun a v w hR hE => ?_
  obtain ⟨A1, c1, rfl, hq⟩ := hR
  have hS := hS.call hq rfl
  refine st_pure hE rfl 8 rfl rfl (.tuple #[.slice A1 y1.1.length c1, .int .i64 y1.2]) (by kernel_rfl) fun a hE => ?_
  refine st_pure hE rfl 11 rfl rfl (.slice A1 y1.1.length c1) (by kernel_rfl) fun a hE => ?_
  refine st_pure hE rfl 12 rfl rfl (.int .i64 y1.2) (by kernel_rfl) fun a hE => ?_
  refine st_pure hE rfl 4 rfl rfl (.slice A1 y1.1.length c1) (by kernel_rfl) fun a hE => ?_
  refine st_pure hE rfl 5 rfl rfl (.int .i64 y1.2) (by kernel_rfl) fun a hE => ?_
  refine st_nil ?_
  refine n_then ?_
  refine wp_seq ?_
  refine wp_seq ?_
  refine r_list ?_
  refine st_pure hE rfl 13 rfl rfl (.int .i64 y1.2) (by kernel_rfl) fun a hE => ?_
  refine st_pure hE rfl 14 rfl rfl (.bool (y1.2 != 0)) (by kernel_rfl) fun a hE => ?_
  refine st_nil ?_
  refine n_then ?_
  rcases Bool.eq_false_or_eq_true (y1.2 != 0) with hb | hb
  · have hF := if_t hF hb
    refine c_true hE rfl hb ?_
    refine wp_seq ?_
    refine r_list ?_
    refine st_pure hE rfl 15 rfl rfl (.int .i64 y1.2) (by kernel_rfl) fun a hE => ?_
    refine st_pure hE rfl 2 rfl rfl (.slice none 0 0) (by kernel_rfl) fun a hE => ?_
    refine st_pure hE rfl 3 rfl rfl (.int .i64 y1.2) (by kernel_rfl) fun a hE => ?_
    refine st_nil ?_
    refine n_then ?_
    refine wp_ret ?_
    obtain rfl := Option.some.inj hF
    refine r_then ?_
    have hS := hS.nil_row 3 1
    exact out (rs := [.tmp 2, .tmp 3]) (vs := [.slice none 0 0, .int .i64 y1.2]) rfl hE hS (.cons (.tmp rfl) (.cons (.tmp rfl) .nil)) ⟨none, 0, rfl, hS.pick [0] rfl rfl⟩
  have hF := if_f hF hb
  refine c_false hE rfl hb ?_
  refine wp_skip ?_
  refine n_then ?_
  refine wp_seq ?_
  refine r_list ?_
  refine go_slice hE hS rfl 16 rfl rfl 3 1 1 ([0].map (eI .i64)) (fun _ => by kernel_rfl) rfl (fun r hr => by obtain ⟨_, _, rfl⟩ := List.mem_map.1 hr; rfl) rfl fun a w A2 hx hE hS => ?_
  refine st_pure hE rfl 6 rfl rfl (.slice A2 [0].length 1) (by kernel_rfl) fun a hE => ?_
  refine st_nil ?_
  refine n_then ?_
  refine wp_seq ?_
  refine wp_seq ?_
  refine r_list ?_
  refine st_pure hE rfl 17 rfl rfl (.slice A1 y1.1.length c1) (by kernel_rfl) fun a hE => ?_
  refine st_pure hE rfl 18 rfl rfl (.int .i64 (y1.1.length : Int)) (by kernel_rfl) fun a hE => ?_
  refine st_pure hE rfl 19 rfl rfl (.int .i64 0) (by kernel_rfl) fun a hE => ?_
  refine st_nil ?_
  refine n_then ?_
  obtain ⟨o1, g1, hF⟩ := bind_some hF
  refine w_meet (fun a w => ∃ (A3 : Option Addr) (c2 : Nat), Env 37 a [(6, .slice A3 o1.length c2)] ∧ Sep [] w0 w [.row 3 1 A3 o1.length c2 (o1.map (eI .i64))]) ?_ ?_
  · refine wp_block ?_
    refine loop_rule g1 (fun (s1 : (List Int) × Int) a w => ∃ (A4 : Option Addr) (c3 : Nat), Env 37 a [(4, .slice A1 y1.1.length c1), (6, .slice A4 s1.1.length c3), (18, .int .i64 (y1.1.length : Int)), (19, .int .i64 s1.2)] ∧ Sep [] w0 w [.row 9 1 A1 y1.1.length c1 (y1.1.map eS), .row 3 1 A4 s1.1.length c3 (s1.1.map (eI .i64))]) ?_ ?_
    · exact ⟨A2, 1, hE.sel ⟨rfl, rfl, rfl, rfl, trivial⟩, hS.pick [1, 0] rfl rfl⟩
    rintro s1 a w ⟨A4, c3, hE, hS⟩ st hB1 hD1
    unfold ref11_Bounds_L1 at hB1
    refine wp_seq ?_
    refine r_list ?_
    refine st_pure hE rfl 20 rfl rfl (.bool (decide (s1.2 < (y1.1.length : Int)))) (by kernel_rfl) fun a hE => ?_
    refine st_nil ?_
    refine n_then ?_
    refine wp_seq ?_
    rcases (Bool.eq_false_or_eq_true (decide (s1.2 < (y1.1.length : Int)))).symm with hb | hb
    · have hB1 := if_f hB1 hb
      refine c_false hE rfl hb ?_
      refine wp_exit ?_
      refine e_then (e_then (e_in ?_))
      obtain rfl := Option.some.inj hB1
      have hd := hD1 _ rfl
      subst hd
      refine n_then ?_
      exact ⟨A4, c3, hE.sel ⟨rfl, trivial⟩, hS.pick [1] rfl rfl⟩
    have hB1 := if_t hB1 hb
    refine c_true hE rfl hb ?_
    refine wp_skip ?_
    refine n_then ?_
    refine wp_seq ?_
    refine wp_block ?_
    refine wp_seq ?_
    refine r_list ?_
    refine st_pure hE rfl 21 rfl rfl (.int .i64 s1.2) (by kernel_rfl) fun a hE => ?_
    refine st_pure hE rfl 7 rfl rfl (.int .i64 s1.2) (by kernel_rfl) fun a hE => ?_
    refine st_nil ?_
    refine n_then ?_
    refine r_mix [12, 13] [(0, false), (1, false), (2, false), (3, false), (4, false), (5, false), (6, false), (7, false), (8, false), (9, false), (10, false), (11, true), (12, true), (13, true)] rfl (by kernel_rfl) ?_
    have hW := hS
    have hX := hS.now
    refine mx_pure hE rfl rfl 22 rfl rfl (.slice A4 s1.1.length c3) (by kernel_rfl) fun a hE => ?_
    refine mx_pure hE rfl rfl 23 rfl rfl (.slice A4 s1.1.length c3) (by kernel_rfl) fun a hE => ?_
    refine mx_pure hE rfl rfl 24 rfl rfl (.int .i64 s1.2) (by kernel_rfl) fun a hE => ?_
    obtain ⟨y2, h2, hB1⟩ := bind_some hB1
    refine mx_at (e := 3) (c := 1) hE hW rfl rfl 25 rfl rfl 1 rfl (by kernel_rfl) (by kernel_rfl) rfl rfl rfl .row rfl h2 fun a b1 p1 hA1 hE => ?_
    refine mx_run hE rfl rfl 26 rfl rfl (.int .i64 y2) (fun w hx => ld_elem (k := 1) (f := (eI .i64)) (j := 0) hE (hW.ext hx) rfl rfl rfl .row hA1 h2 rfl (by kernel_rfl)) fun a hE => ?_
    refine mx_pure hE rfl rfl 27 rfl rfl (.slice A1 y1.1.length c1) (by kernel_rfl) fun a hE => ?_
    refine mx_pure hE rfl rfl 28 rfl rfl (.int .i64 s1.2) (by kernel_rfl) fun a hE => ?_
    obtain ⟨y3, h3, hB1⟩ := bind_some hB1
    refine mx_at (e := 9) (c := 1) hE hW rfl rfl 29 rfl rfl 0 rfl (by kernel_rfl) (by kernel_rfl) rfl rfl rfl .row rfl h3 fun a b2 p2 hA2 hE => ?_
    refine mx_run hE rfl rfl 30 rfl rfl (S y3) (fun w hx => ld_elem (k := 0) (f := eS) (j := 0) hE (hW.ext hx) rfl rfl rfl .row hA2 h3 rfl (by kernel_rfl)) fun a hE => ?_
    refine mx_pure hE rfl rfl 31 rfl rfl (.int .i64 (y3.length : Int)) (by kernel_rfl) fun a hE => ?_
    refine mx_pure hE rfl rfl 32 rfl rfl (.int .i64 (w64 (y2 + (y3.length : Int)))) (by kernel_rfl) fun a hE => ?_
    refine mx_loud rfl fun w hx => ?_
    have hS := hS.ext hx
    have hX := hX.trans hx
    refine go_slice hE hS rfl 33 rfl rfl 3 1 1 ([(w64 (y2 + (y3.length : Int)))].map (eI .i64)) (fun _ => by kernel_rfl) rfl (fun r hr => by obtain ⟨_, _, rfl⟩ := List.mem_map.1 hr; rfl) rfl fun a w A5 hx hE hS => ?_
    have hX := hX.trans hx
    refine st_nil (n_then ⟨fun _ => hX, ?_⟩)
    refine mx_loud rfl fun w hx => ?_
    have hS := hS.ext hx
    obtain ⟨y4, h4, hB1⟩ := bind_some hB1
    refine go_push (e := 3) (c := 1) (bytes := 8) (f := (eI .i64)) (xs := s1.1) (ys := [(w64 (y2 + (y3.length : Int)))]) hE hS rfl 34 rfl rfl 2 0 rfl (elemOK (by kernel_rfl) (by kernel_rfl)) rfl rfl rfl rfl .row (fun _ => rfl) (fun _ => rfl) rfl rfl h4 fun a w A6 c4 hE hS => ?_
    refine st_nil (n_then ⟨fun h => absurd h (by decide), ?_⟩)
    refine mx_loud rfl fun w hx => ?_
    have hS := hS.ext hx
    refine st_pure hE rfl 6 rfl rfl (.slice A6 y4.length c4) (by kernel_rfl) fun a hE => ?_
    refine st_nil (n_then ⟨fun h => absurd h (by decide), ?_⟩)
    refine mx_nil fun w hx => ?_
    have hS := hS.ext hx
    refine n_in ?_
    refine n_then ?_
    refine r_list ?_
    refine st_pure hE rfl 35 rfl rfl (.int .i64 (w64 (s1.2 + 1))) (by kernel_rfl) fun a hE => ?_
    refine st_pure hE rfl 19 rfl rfl (.int .i64 (w64 (s1.2 + 1))) (by kernel_rfl) fun a hE => ?_
    refine st_nil ?_
    obtain rfl := Option.some.inj hB1
    refine n_then ?_
    exact ⟨_, rfl, A6, c4, hE.sel ⟨rfl, rfl, rfl, rfl, trivial⟩, hS.pick [1, 2] rfl rfl⟩
  rintro a w ⟨A3, c2, hE, hS⟩
  refine n_then ?_
  refine wp_seq ?_
  refine r_list ?_
  refine st_pure hE rfl 36 rfl rfl (.slice A3 o1.length c2) (by kernel_rfl) fun a hE => ?_
  refine st_pure hE rfl 2 rfl rfl (.slice A3 o1.length c2) (by kernel_rfl) fun a hE => ?_
  refine st_pure hE rfl 3 rfl rfl (.int .i64 0) (by kernel_rfl) fun a hE => ?_
  refine st_nil ?_
  refine n_then ?_
  refine wp_ret ?_
  obtain rfl := Option.some.inj hF
  exact out (rs := [.tmp 2, .tmp 3]) (vs := [.slice A3 o1.length c2, .int .i64 0]) rfl hE hS (.cons (.tmp rfl) (.cons (.tmp rfl) .nil)) ⟨A3, c2, rfl, hS.pick [0] rfl rfl⟩
/-- filespace/filespaceref11.SameInts -/
theorem W_ref11_SameInts (x0 : List Int) (x1 : List Int) (r : Bool) (hF : ref11_SameInts x0 x1 = some r) (w0 : World) {a0 : Option Addr} {k0 : Nat} {F0 : Nat → Prop} (hs0 : In F0 1 a0 x0.length k0 (x0.map (eI .i64)) w0) {a1 : Option Addr} {k1 : Nat} {F1 : Nat → Prop} (hs1 : In F1 1 a1 x1.length k1 (x1.map (eI .i64)) w0) : Ret Try.prog 24 #[.slice a0 x0.length k0, .slice a1 x1.length k1] w0 fun v w => v = .bool r ∧ Sep [] w0 w [] := by
  refine enter Try.func24 rfl rfl rfl fun a hE => ?_
  have hS := Sep.start [] w0
  have hS := hS.lent hs0
  have hS := hS.lent hs1
  unfold ref11_SameInts at hF
  refine wp_seq ?_
  refine r_list ?_
  refine st_pure hE rfl 4 rfl rfl (.bool false) (by kernel_rfl) fun a hE => ?_
  refine st_nil ?_
  refine n_then ?_
  refine wp_seq ?_
  refine wp_seq ?_
  refine r_list ?_
  refine st_pure hE rfl 6 rfl rfl (.slice a0 x0.length k0) (by kernel_rfl) fun a hE => ?_
  refine st_pure hE rfl 7 rfl rfl (.int .i64 (x0.length : Int)) (by kernel_rfl) fun a hE => ?_
  refine st_pure hE rfl 8 rfl rfl (.slice a1 x1.length k1) (by kernel_rfl) fun a hE => ?_
  refine st_pure hE rfl 9 rfl rfl (.int .i64 (x1.length : Int)) (by kernel_rfl) fun a hE => ?_
  refine st_pure hE rfl 10 rfl rfl (.bool ((x0.length : Int) != (x1.length : Int))) (by kernel_rfl) fun a hE => ?_
  refine st_nil ?_
  refine n_then ?_
  rcases Bool.eq_false_or_eq_true ((x0.length : Int) != (x1.length : Int)) with hb | hb
  · have hF := if_t hF hb
    refine c_true hE rfl hb ?_
    refine wp_seq ?_
    refine r_list ?_
    refine st_pure hE rfl 4 rfl rfl (.bool false) (by kernel_rfl) fun a hE => ?_
    refine st_nil ?_
    refine n_then ?_
    refine wp_ret ?_
    obtain rfl := Option.some.inj hF
    refine r_then ?_
    exact out (rs := [.tmp 4]) (vs := [.bool false]) rfl hE hS (.cons (.tmp rfl) .nil) ⟨rfl, hS.pick [] rfl rfl⟩
  have hF := if_f hF hb
  refine c_false hE rfl hb ?_
  refine wp_skip ?_
  refine n_then ?_
  refine wp_seq ?_
  refine wp_seq ?_
  refine r_list ?_
  refine st_pure hE rfl 11 rfl rfl (.slice a0 x0.length k0) (by kernel_rfl) fun a hE => ?_
  refine st_pure hE rfl 12 rfl rfl (.int .i64 (x0.length : Int)) (by kernel_rfl) fun a hE => ?_
  refine st_pure hE rfl 13 rfl rfl (.int .i64 0) (by kernel_rfl) fun a hE => ?_
  refine st_nil ?_
  refine n_then ?_
  obtain ⟨o1, g1, hF⟩ := bind_some hF
  refine w_meet (fun a w => ∃ s1, o1 = .fall s1 ∧ Env 26 a [] ∧ Sep [] w0 w []) ?_ ?_
  · refine wp_block ?_
    refine loop_rule g1 (fun (s1 : Int) a w => Env 26 a [(0, .slice a0 x0.length k0), (1, .slice a1 x1.length k1), (12, .int .i64 (x0.length : Int)), (13, .int .i64 s1)] ∧ Sep [] w0 w [.ro F0 (Rd F0 1 a0 x0.length k0 (x0.map (eI .i64))), .ro F1 (Rd F1 1 a1 x1.length k1 (x1.map (eI .i64)))]) ?_ ?_
    · exact ⟨hE.sel ⟨rfl, rfl, rfl, rfl, trivial⟩, hS.pick [1, 0] rfl rfl⟩
    rintro s1 a w ⟨hE, hS⟩ st hB1 hD1
    unfold ref11_SameInts_L1 at hB1
    refine wp_seq ?_
    refine r_list ?_
    refine st_pure hE rfl 14 rfl rfl (.bool (decide (s1 < (x0.length : Int)))) (by kernel_rfl) fun a hE => ?_
    refine st_nil ?_
    refine n_then ?_
    refine wp_seq ?_
    rcases (Bool.eq_false_or_eq_true (decide (s1 < (x0.length : Int)))).symm with hb | hb
    · have hB1 := if_f hB1 hb
      refine c_false hE rfl hb ?_
      refine wp_exit ?_
      refine e_then (e_then (e_in ?_))
      obtain rfl := Option.some.inj hB1
      have hd := hD1 _ rfl
      subst hd
      refine n_then ?_
      exact ⟨_, rfl, hE.sel trivial, hS.pick [] rfl rfl⟩
    have hB1 := if_t hB1 hb
    refine c_true hE rfl hb ?_
    refine wp_skip ?_
    refine n_then ?_
    refine wp_seq ?_
    refine wp_block ?_
    refine wp_seq ?_
    refine r_list ?_
    refine st_pure hE rfl 15 rfl rfl (.int .i64 s1) (by kernel_rfl) fun a hE => ?_
    refine st_pure hE rfl 5 rfl rfl (.int .i64 s1) (by kernel_rfl) fun a hE => ?_
    refine st_nil ?_
    refine n_then ?_
    refine wp_seq ?_
    refine r_mix [] [(0, false), (1, false), (2, false), (3, false), (4, false), (5, false), (6, false), (7, false), (8, false)] rfl (by kernel_rfl) ?_
    have hW := hS
    have hX := hS.now
    refine mx_pure hE rfl rfl 16 rfl rfl (.slice a0 x0.length k0) (by kernel_rfl) fun a hE => ?_
    refine mx_pure hE rfl rfl 17 rfl rfl (.int .i64 s1) (by kernel_rfl) fun a hE => ?_
    obtain ⟨y1, h1, hB1⟩ := bind_some hB1
    refine mx_at (e := 3) (c := 1) hE hW rfl rfl 18 rfl rfl 0 rfl (by kernel_rfl) (by kernel_rfl) rfl rfl rfl .ro rfl h1 fun a b1 p1 hA1 hE => ?_
    refine mx_run hE rfl rfl 19 rfl rfl (.int .i64 y1) (fun w hx => ld_elem (k := 0) (f := (eI .i64)) (j := 0) hE (hW.ext hx) rfl rfl rfl .ro hA1 h1 rfl (by kernel_rfl)) fun a hE => ?_
    refine mx_pure hE rfl rfl 20 rfl rfl (.slice a1 x1.length k1) (by kernel_rfl) fun a hE => ?_
    refine mx_pure hE rfl rfl 21 rfl rfl (.int .i64 s1) (by kernel_rfl) fun a hE => ?_
    obtain ⟨y2, h2, hB1⟩ := bind_some hB1
    refine mx_at (e := 3) (c := 1) hE hW rfl rfl 22 rfl rfl 1 rfl (by kernel_rfl) (by kernel_rfl) rfl rfl rfl .ro rfl h2 fun a b2 p2 hA2 hE => ?_
    refine mx_run hE rfl rfl 23 rfl rfl (.int .i64 y2) (fun w hx => ld_elem (k := 1) (f := (eI .i64)) (j := 0) hE (hW.ext hx) rfl rfl rfl .ro hA2 h2 rfl (by kernel_rfl)) fun a hE => ?_
    refine mx_pure hE rfl rfl 24 rfl rfl (.bool (y1 != y2)) (by kernel_rfl) fun a hE => ?_
    refine mx_nil fun w hx => ?_
    have hS := hS.ext hx
    refine n_then ?_
    rcases Bool.eq_false_or_eq_true (y1 != y2) with hb | hb
    · have hB1 := if_t hB1 hb
      refine c_true hE rfl hb ?_
      refine wp_seq ?_
      refine r_list ?_
      refine st_pure hE rfl 4 rfl rfl (.bool false) (by kernel_rfl) fun a hE => ?_
      refine st_nil ?_
      refine n_then ?_
      refine wp_ret ?_
      obtain rfl := Option.some.inj hB1
      have hd := hD1 _ rfl
      subst hd
      obtain rfl := Option.some.inj hF
      refine r_in (r_then (r_then (r_in (r_then (r_then ?_)))))
      exact out (rs := [.tmp 4]) (vs := [.bool false]) rfl hE hS (.cons (.tmp rfl) .nil) ⟨rfl, hS.pick [] rfl rfl⟩
    have hB1 := if_f hB1 hb
    refine c_false hE rfl hb ?_
    refine wp_skip ?_
    refine n_in ?_
    refine n_then ?_
    refine r_list ?_
    refine st_pure hE rfl 25 rfl rfl (.int .i64 (w64 (s1 + 1))) (by kernel_rfl) fun a hE => ?_
    refine st_pure hE rfl 13 rfl rfl (.int .i64 (w64 (s1 + 1))) (by kernel_rfl) fun a hE => ?_
    refine st_nil ?_
    obtain rfl := Option.some.inj hB1
    refine n_then ?_
    exact ⟨_, rfl, hE.sel ⟨rfl, rfl, rfl, rfl, trivial⟩, hS.pick [0, 1] rfl rfl⟩
  rintro a w ⟨s1, rfl, hE, hS⟩
  replace hF := hF
  refine n_then ?_
  refine wp_seq ?_
  refine r_list ?_
  refine st_pure hE rfl 4 rfl rfl (.bool true) (by kernel_rfl) fun a hE => ?_
  refine st_nil ?_
  refine n_then ?_
  refine wp_ret ?_
  obtain rfl := Option.some.inj hF
  exact out (rs := [.tmp 4]) (vs := [.bool true]) rfl hE hS (.cons (.tmp rfl) .nil) ⟨rfl, hS.pick [] rfl rfl⟩
/-- filespace/filespacelaw11.DirreadBounds -/
theorem W_law11_DirreadBounds (x0 : List api_Dir) (x1 : Int) (r : Bool) (hF : law11_DirreadBounds x0 x1 = some r) (w0 : World) {a0 : Option Addr} {k0 : Nat} {F0 : Nat → Prop} (hs0 : In F0 13 a0 x0.length k0 (x0.map api_Dir.enc) w0) : Ret Try.prog 5 #[.slice a0 x0.length k0, .int .i64 x1] w0 fun v w => v = .bool r ∧ Sep [] w0 w [] := by
  refine enter Try.func5 rfl rfl rfl fun a hE => ?_
  have hS := Sep.start [] w0
  have hS := hS.lent hs0
  unfold law11_DirreadBounds at hF
  refine wp_seq ?_
  refine r_list ?_
  refine st_pure hE rfl 4 rfl rfl (.bool false) (by kernel_rfl) fun a hE => ?_
  refine st_nil ?_
  refine n_then ?_
  refine wp_seq ?_
  refine wp_seq ?_
  refine r_list ?_
  refine st_pure hE rfl 13 rfl rfl (.slice a0 x0.length k0) (by kernel_rfl) fun a hE => ?_
  obtain ⟨y1, h1, hF⟩ := bind_some hF
  refine go_call hE rfl 14 rfl rfl 19 _ (by kernel_rfl) (W_law11_small x0 _ h1 _ (hS.in_ (i := 0) rfl .ro)) fun a v w hR hE => ?_
  obtain ⟨rfl, hq⟩ := hR
  have hS := hS.call hq rfl
  refine st_pure hE rfl 15 rfl rfl (.bool (!y1)) (by kernel_rfl) fun a hE => ?_
  refine st_nil ?_
  refine n_then ?_
  rcases Bool.eq_false_or_eq_true (!y1) with hb | hb
  · have hF := if_t hF hb
    refine c_true hE rfl hb ?_
    refine wp_seq ?_
    refine r_list ?_
    obtain ⟨y2, h2, hF⟩ := bind_some hF
    refine go_call hE rfl 16 rfl rfl 18 _ (by kernel_rfl) (W_law11_awake  _ h2 _ ) fun a v w hR hE => ?_
    obtain ⟨rfl, hq⟩ := hR
    have hS := hS.call hq rfl
    refine st_pure hE rfl 4 rfl rfl (.bool y2) (by kernel_rfl) fun a hE => ?_
    refine st_nil ?_
    refine n_then ?_
    refine wp_ret ?_
    obtain rfl := Option.some.inj hF
    refine r_then ?_
    exact out (rs := [.tmp 4]) (vs := [.bool y2]) rfl hE hS (.cons (.tmp rfl) .nil) ⟨rfl, hS.pick [] rfl rfl⟩
  have hF := if_f hF hb
  refine c_false hE rfl hb ?_
  refine wp_skip ?_
  refine n_then ?_
  refine wp_seq ?_
  refine r_list ?_
  refine st_pure hE rfl 18 rfl rfl (.slice a0 x0.length k0) (by kernel_rfl) fun a hE => ?_
  obtain ⟨y3, h3, hF⟩ := bind_some hF
  refine go_call hE rfl 19 rfl rfl 22 _ (by kernel_rfl) (W_dirread_Bounds x0 _ h3 _ (hS.in_ (i := 0) rfl .ro)) fun a v w hR hE => ?_
  obtain ⟨A1, c1, rfl, hq⟩ := hR
  have hS := hS.call hq rfl
  refine st_pure hE rfl 17 rfl rfl (.tuple #[.slice A1 y3.1.length c1, .int .i64 y3.2]) (by kernel_rfl) fun a hE => ?_
  refine st_pure hE rfl 20 rfl rfl (.slice A1 y3.1.length c1) (by kernel_rfl) fun a hE => ?_
  refine st_pure hE rfl 21 rfl rfl (.int .i64 y3.2) (by kernel_rfl) fun a hE => ?_
  refine st_pure hE rfl 5 rfl rfl (.slice A1 y3.1.length c1) (by kernel_rfl) fun a hE => ?_
  refine st_pure hE rfl 6 rfl rfl (.int .i64 y3.2) (by kernel_rfl) fun a hE => ?_
  refine st_nil ?_
  refine n_then ?_
  refine wp_seq ?_
  refine r_list ?_
  refine st_pure hE rfl 23 rfl rfl (.slice a0 x0.length k0) (by kernel_rfl) fun a hE => ?_
  obtain ⟨y4, h4, hF⟩ := bind_some hF
  refine go_call hE rfl 24 rfl rfl 23 _ (by kernel_rfl) (W_ref11_Bounds x0 _ h4 _ (hS.in_ (i := 1) rfl .ro)) fun a v w hR hE => ?_
  obtain ⟨A2, c2, rfl, hq⟩ := hR
  have hS := hS.call hq rfl
  refine st_pure hE rfl 22 rfl rfl (.tuple #[.slice A2 y4.1.length c2, .int .i64 y4.2]) (by kernel_rfl) fun a hE => ?_
  refine st_pure hE rfl 25 rfl rfl (.slice A2 y4.1.length c2) (by kernel_rfl) fun a hE => ?_
  refine st_pure hE rfl 26 rfl rfl (.int .i64 y4.2) (by kernel_rfl) fun a hE => ?_
  refine st_pure hE rfl 7 rfl rfl (.slice A2 y4.1.length c2) (by kernel_rfl) fun a hE => ?_
  refine st_pure hE rfl 8 rfl rfl (.int .i64 y4.2) (by kernel_rfl) fun a hE => ?_
  refine st_nil ?_
  refine n_then ?_
  refine wp_seq ?_
  refine wp_seq ?_
  refine r_list ?_
  refine st_pure hE rfl 27 rfl rfl (.slice A1 y3.1.length c1) (by kernel_rfl) fun a hE => ?_
  refine st_pure hE rfl 28 rfl rfl (.slice A2 y4.1.length c2) (by kernel_rfl) fun a hE => ?_
  obtain ⟨y5, h5, hF⟩ := bind_some hF
  refine go_call hE rfl 29 rfl rfl 24 _ (by kernel_rfl) (W_ref11_SameInts y3.1 y4.1 _ h5 _ (hS.in_ (i := 1) rfl .row) (hS.in_ (i := 0) rfl .row)) fun a v w hR hE => ?_
  obtain ⟨rfl, hq⟩ := hR
  have hS := hS.call hq rfl
  refine st_pure hE rfl 30 rfl rfl (.bool (!y5)) (by kernel_rfl) fun a hE => ?_
  refine st_pure hE rfl 31 rfl rfl (.bool (!y5)) (by kernel_rfl) fun a hE => ?_
  refine st_cut 4 (fun a w => Env 77 a [(35, .bool ((!y5) || (y3.2 != y4.2))), (0, .slice a0 x0.length k0), (1, .int .i64 x1), (5, .slice A1 y3.1.length c1), (6, .int .i64 y3.2)] ∧ Sep [] w0 w [.row 3 1 A2 y4.1.length c2 (y4.1.map (eI .i64)), .row 3 1 A1 y3.1.length c1 (y3.1.map (eI .i64)), .ro F0 (Rd F0 13 a0 x0.length k0 (x0.map api_Dir.enc))]) ?_ ?_
  · rcases Bool.eq_false_or_eq_true (!y5) with hb | hb
    · have hE := hE.bool (t := 31) rfl hb
      refine st_not hE rfl 32 rfl rfl fun a hE => ?_
      refine st_not hE rfl 33 rfl rfl fun a hE => ?_
      refine st_not hE rfl 34 rfl rfl fun a hE => ?_
      refine st_pure hE rfl 35 rfl rfl (.bool true) (by kernel_rfl) fun a hE => ?_
      have hE := hE.re (t := 35) rfl (congrArg Value.bool (or_t (e := (y3.2 != y4.2)) hb))
      exact st_nil (n_then ⟨hE.sel ⟨rfl, rfl, rfl, rfl, rfl, trivial⟩, hS⟩)
    · have hE := hE.bool (t := 31) rfl hb
      refine st_pure hE rfl 32 rfl rfl (.int .i64 y3.2) (by kernel_rfl) fun a hE => ?_
      refine st_pure hE rfl 33 rfl rfl (.int .i64 y4.2) (by kernel_rfl) fun a hE => ?_
      refine st_pure hE rfl 34 rfl rfl (.bool (y3.2 != y4.2)) (by kernel_rfl) fun a hE => ?_
      refine st_pure hE rfl 35 rfl rfl (.bool (y3.2 != y4.2)) (by kernel_rfl) fun a hE => ?_
      have hE := hE.re (t := 35) rfl (congrArg Value.bool (or_f (e := (y3.2 != y4.2)) hb))
      exact st_nil (n_then ⟨hE.sel ⟨rfl, rfl, rfl, rfl, rfl, trivial⟩, hS⟩)
  rintro a w ⟨hE, hS⟩
  refine st_nil ?_
  refine n_then ?_
  rcases Bool.eq_false_or_eq_true ((!y5) || (y3.2 != y4.2)) with hb | hb
  · have hF := if_t hF hb
    refine c_true hE rfl hb ?_
    refine wp_seq ?_
    refine r_list ?_
    refine st_pure hE rfl 4 rfl rfl (.bool false) (by kernel_rfl) fun a hE => ?_
    refine st_nil ?_
    refine n_then ?_
    refine wp_ret ?_
    obtain rfl := Option.some.inj hF
    refine r_then ?_
    exact out (rs := [.tmp 4]) (vs := [.bool false]) rfl hE hS (.cons (.tmp rfl) .nil) ⟨rfl, hS.pick [] rfl rfl⟩
  have hF := if_f hF hb
  refine c_false hE rfl hb ?_
  refine wp_skip ?_
  refine n_then ?_
  refine wp_seq ?_
  refine wp_seq ?_
  refine r_list ?_
  refine st_pure hE rfl 36 rfl rfl (.int .i64 y3.2) (by kernel_rfl) fun a hE => ?_
  refine st_pure hE rfl 37 rfl rfl (.bool (y3.2 != 0)) (by kernel_rfl) fun a hE => ?_
  refine st_pure hE rfl 38 rfl rfl (.bool (y3.2 != 0)) (by kernel_rfl) fun a hE => ?_
  refine st_cut 3 (fun a w => Env 77 a [(41, .bool ((y3.2 != 0) || (decide (x1 < 0)))), (0, .slice a0 x0.length k0), (1, .int .i64 x1), (5, .slice A1 y3.1.length c1)] ∧ Sep [] w0 w [.row 3 1 A2 y4.1.length c2 (y4.1.map (eI .i64)), .row 3 1 A1 y3.1.length c1 (y3.1.map (eI .i64)), .ro F0 (Rd F0 13 a0 x0.length k0 (x0.map api_Dir.enc))]) ?_ ?_
  · rcases Bool.eq_false_or_eq_true (y3.2 != 0) with hb | hb
    · have hE := hE.bool (t := 38) rfl hb
      refine st_not hE rfl 39 rfl rfl fun a hE => ?_
      refine st_not hE rfl 40 rfl rfl fun a hE => ?_
      refine st_pure hE rfl 41 rfl rfl (.bool true) (by kernel_rfl) fun a hE => ?_
      have hE := hE.re (t := 41) rfl (congrArg Value.bool (or_t (e := (decide (x1 < 0))) hb))
      exact st_nil (n_then ⟨hE.sel ⟨rfl, rfl, rfl, rfl, trivial⟩, hS⟩)
    · have hE := hE.bool (t := 38) rfl hb
      refine st_pure hE rfl 39 rfl rfl (.int .i64 x1) (by kernel_rfl) fun a hE => ?_
      refine st_pure hE rfl 40 rfl rfl (.bool (decide (x1 < 0))) (by kernel_rfl) fun a hE => ?_
      refine st_pure hE rfl 41 rfl rfl (.bool (decide (x1 < 0))) (by kernel_rfl) fun a hE => ?_
      have hE := hE.re (t := 41) rfl (congrArg Value.bool (or_f (e := (decide (x1 < 0))) hb))
      exact st_nil (n_then ⟨hE.sel ⟨rfl, rfl, rfl, rfl, trivial⟩, hS⟩)
  rintro a w ⟨hE, hS⟩
  refine st_nil ?_
  refine n_then ?_
  rcases Bool.eq_false_or_eq_true ((y3.2 != 0) || (decide (x1 < 0))) with hb | hb
  · have hF := if_t hF hb
    refine c_true hE rfl hb ?_
    refine wp_seq ?_
    refine r_list ?_
    obtain ⟨y6, h6, hF⟩ := bind_some hF
    refine go_call hE rfl 42 rfl rfl 18 _ (by kernel_rfl) (W_law11_awake  _ h6 _ ) fun a v w hR hE => ?_
    obtain ⟨rfl, hq⟩ := hR
    have hS := hS.call hq rfl
    refine st_pure hE rfl 4 rfl rfl (.bool y6) (by kernel_rfl) fun a hE => ?_
    refine st_nil ?_
    refine n_then ?_
    refine wp_ret ?_
    obtain rfl := Option.some.inj hF
    refine r_then ?_
    exact out (rs := [.tmp 4]) (vs := [.bool y6]) rfl hE hS (.cons (.tmp rfl) .nil) ⟨rfl, hS.pick [] rfl rfl⟩
  have hF := if_f hF hb
  refine c_false hE rfl hb ?_
  refine wp_skip ?_
  refine n_then ?_
  refine wp_seq ?_
  refine r_list ?_
  refine st_pure hE rfl 9 rfl rfl (.bool false) (by kernel_rfl) fun a hE => ?_
  refine st_nil ?_
  refine n_then ?_
  refine wp_seq ?_
  refine wp_seq ?_
  refine r_list ?_
  refine st_pure hE rfl 43 rfl rfl (.slice A1 y3.1.length c1) (by kernel_rfl) fun a hE => ?_
  refine st_pure hE rfl 44 rfl rfl (.int .i64 (y3.1.length : Int)) (by kernel_rfl) fun a hE => ?_
  refine st_pure hE rfl 45 rfl rfl (.int .i64 0) (by kernel_rfl) fun a hE => ?_
  refine st_nil ?_
  refine n_then ?_
  obtain ⟨o1, g1, hF⟩ := bind_some hF
  refine w_meet (fun a w => Env 77 a [(0, .slice a0 x0.length k0), (1, .int .i64 x1), (9, .bool o1)] ∧ Sep [] w0 w [.ro F0 (Rd F0 13 a0 x0.length k0 (x0.map api_Dir.enc))]) ?_ ?_
  · refine wp_block ?_
    refine loop_rule g1 (fun (s1 : Bool × Int) a w => Env 77 a [(0, .slice a0 x0.length k0), (1, .int .i64 x1), (5, .slice A1 y3.1.length c1), (9, .bool s1.1), (44, .int .i64 (y3.1.length : Int)), (45, .int .i64 s1.2)] ∧ Sep [] w0 w [.ro F0 (Rd F0 13 a0 x0.length k0 (x0.map api_Dir.enc)), .row 3 1 A1 y3.1.length c1 (y3.1.map (eI .i64))]) ?_ ?_
    · exact ⟨hE.sel ⟨rfl, rfl, rfl, rfl, rfl, rfl, trivial⟩, hS.pick [2, 1] rfl rfl⟩
    rintro s1 a w ⟨hE, hS⟩ st hB1 hD1
    unfold law11_DirreadBounds_L1 at hB1
    refine wp_seq ?_
    refine r_list ?_
    refine st_pure hE rfl 46 rfl rfl (.bool (decide (s1.2 < (y3.1.length : Int)))) (by kernel_rfl) fun a hE => ?_
    refine st_nil ?_
    refine n_then ?_
    refine wp_seq ?_
    rcases (Bool.eq_false_or_eq_true (decide (s1.2 < (y3.1.length : Int)))).symm with hb | hb
    · have hB1 := if_f hB1 hb
      refine c_false hE rfl hb ?_
      refine wp_exit ?_
      refine e_then (e_then (e_in ?_))
      obtain rfl := Option.some.inj hB1
      have hd := hD1 _ rfl
      subst hd
      refine n_then ?_
      exact ⟨hE.sel ⟨rfl, rfl, rfl, trivial⟩, hS.pick [0] rfl rfl⟩
    have hB1 := if_t hB1 hb
    refine c_true hE rfl hb ?_
    refine wp_skip ?_
    refine n_then ?_
    refine wp_seq ?_
    refine wp_block ?_
    refine wp_seq ?_
    refine r_list ?_
    refine st_pure hE rfl 47 rfl rfl (.int .i64 s1.2) (by kernel_rfl) fun a hE => ?_
    refine st_pure hE rfl 10 rfl rfl (.int .i64 s1.2) (by kernel_rfl) fun a hE => ?_
    refine st_nil ?_
    refine n_then ?_
    refine r_list ?_
    refine st_pure hE rfl 48 rfl rfl (.bool s1.1) (by kernel_rfl) fun a hE => ?_
    refine st_pure hE rfl 49 rfl rfl (.bool s1.1) (by kernel_rfl) fun a hE => ?_
    obtain ⟨y7, h7, hB1⟩ := bind_some hB1
    refine st_cut 7 (fun a w => Env 77 a [(56, .bool y7), (0, .slice a0 x0.length k0), (1, .int .i64 x1), (5, .slice A1 y3.1.length c1), (9, .bool s1.1), (44, .int .i64 (y3.1.length : Int)), (45, .int .i64 s1.2)] ∧ Sep [] w0 w [.ro F0 (Rd F0 13 a0 x0.length k0 (x0.map api_Dir.enc)), .row 3 1 A1 y3.1.length c1 (y3.1.map (eI .i64))]) ?_ ?_
    · rcases Bool.eq_false_or_eq_true s1.1 with hb | hb
      · have hE := hE.bool (t := 49) rfl hb
        have h7 := if_t h7 hb
        refine st_not hE rfl 50 rfl rfl fun a hE => ?_
        refine st_not hE rfl 51 rfl rfl fun a hE => ?_
        refine st_not hE rfl 52 rfl rfl fun a hE => ?_
        refine st_not hE rfl 53 rfl rfl fun a hE => ?_
        refine st_not hE rfl 54 rfl rfl fun a hE => ?_
        refine st_not hE rfl 55 rfl rfl fun a hE => ?_
        refine st_pure hE rfl 56 rfl rfl (.bool true) (by kernel_rfl) fun a hE => ?_
        obtain rfl := Option.some.inj h7
        exact st_nil (n_then ⟨hE.sel ⟨rfl, rfl, rfl, rfl, rfl, rfl, rfl, trivial⟩, hS⟩)
      · have hE := hE.bool (t := 49) rfl hb
        have h7 := if_f h7 hb
        refine st_pure hE rfl 50 rfl rfl (.slice A1 y3.1.length c1) (by kernel_rfl) fun a hE => ?_
        refine st_pure hE rfl 51 rfl rfl (.int .i64 s1.2) (by kernel_rfl) fun a hE => ?_
        obtain ⟨y8, h8, h7⟩ := bind_some h7
        refine go_at (e := 3) (c := 1) hE hS rfl 52 rfl rfl 1 rfl (by kernel_rfl) (by kernel_rfl) rfl rfl rfl .row rfl h8 fun a b1 p1 hA1 hE => ?_
        refine st_run hE rfl 53 rfl rfl (.int .i64 y8) (ld_elem (k := 1) (f := (eI .i64)) (j := 0) hE hS rfl rfl rfl .row hA1 h8 rfl (by kernel_rfl)) fun a hE => ?_
        refine st_pure hE rfl 54 rfl rfl (.int .i64 x1) (by kernel_rfl) fun a hE => ?_
        refine st_pure hE rfl 55 rfl rfl (.bool (y8 == x1)) (by kernel_rfl) fun a hE => ?_
        refine st_pure hE rfl 56 rfl rfl (.bool (y8 == x1)) (by kernel_rfl) fun a hE => ?_
        obtain rfl := Option.some.inj h7
        exact st_nil (n_then ⟨hE.sel ⟨rfl, rfl, rfl, rfl, rfl, rfl, rfl, trivial⟩, hS⟩)
    rintro a w ⟨hE, hS⟩
    refine st_pure hE rfl 9 rfl rfl (.bool y7) (by kernel_rfl) fun a hE => ?_
    refine st_nil ?_
    refine n_in ?_
    refine n_then ?_
    refine r_list ?_
    refine st_pure hE rfl 57 rfl rfl (.int .i64 (w64 (s1.2 + 1))) (by kernel_rfl) fun a hE => ?_
    refine st_pure hE rfl 45 rfl rfl (.int .i64 (w64 (s1.2 + 1))) (by kernel_rfl) fun a hE => ?_
    refine st_nil ?_
    obtain rfl := Option.some.inj hB1
    refine n_then ?_
    exact ⟨_, rfl, hE.sel ⟨rfl, rfl, rfl, rfl, rfl, rfl, trivial⟩, hS.pick [0, 1] rfl rfl⟩
  rintro a w ⟨hE, hS⟩
  refine n_then ?_
  refine wp_seq ?_
  refine r_list ?_
  refine st_pure hE rfl 59 rfl rfl (.slice a0 x0.length k0) (by kernel_rfl) fun a hE => ?_
  refine st_pure hE rfl 60 rfl rfl (.int .i64 x1) (by kernel_rfl) fun a hE => ?_
  obtain ⟨y9, h9, hF⟩ := bind_some hF
  refine go_call hE rfl 61 rfl rfl 20 _ (by kernel_rfl) (W_dirread_Page x0 x1 1099511627776 _ h9 _ (hS.in_ (i := 0) rfl .ro)) fun a v w hR hE => ?_
  obtain ⟨rfl, hq⟩ := hR
  have hS := hS.call hq rfl
  refine st_pure hE rfl 58 rfl rfl (.tuple #[S y9.1, .int .i64 y9.2]) (by kernel_rfl) fun a hE => ?_
  refine st_pure hE rfl 62 rfl rfl (S y9.1) (by kernel_rfl) fun a hE => ?_
  refine st_pure hE rfl 63 rfl rfl (.int .i64 y9.2) (by kernel_rfl) fun a hE => ?_
  refine st_pure hE rfl 11 rfl rfl (S y9.1) (by kernel_rfl) fun a hE => ?_
  refine st_pure hE rfl 12 rfl rfl (.int .i64 y9.2) (by kernel_rfl) fun a hE => ?_
  refine st_nil ?_
  refine n_then ?_
  refine wp_seq ?_
  refine r_list ?_
  refine st_pure hE rfl 64 rfl rfl (.int .i64 y9.2) (by kernel_rfl) fun a hE => ?_
  refine st_pure hE rfl 65 rfl rfl (.bool (y9.2 == 0)) (by kernel_rfl) fun a hE => ?_
  refine st_pure hE rfl 66 rfl rfl (.bool o1) (by kernel_rfl) fun a hE => ?_
  refine st_run hE rfl 67 rfl rfl (.bool ((y9.2 == 0) == o1)) (run_bool_eql rfl (by kernel_rfl) (hE.eval rfl) (hE.eval rfl)) fun a hE => ?_
  refine st_pure hE rfl 68 rfl rfl (.bool ((y9.2 == 0) == o1)) (by kernel_rfl) fun a hE => ?_
  refine st_cut 5 (fun a w => Env 77 a [(73, .bool (((y9.2 == 0) == o1) && (!((y9.2 == 20) == o1))))] ∧ Sep [] w0 w [.ro F0 (Rd F0 13 a0 x0.length k0 (x0.map api_Dir.enc))]) ?_ ?_
  · rcases Bool.eq_false_or_eq_true ((y9.2 == 0) == o1) with hb | hb
    · have hE := hE.bool (t := 68) rfl hb
      refine st_pure hE rfl 69 rfl rfl (.int .i64 y9.2) (by kernel_rfl) fun a hE => ?_
      refine st_pure hE rfl 70 rfl rfl (.bool (y9.2 == 20)) (by kernel_rfl) fun a hE => ?_
      refine st_pure hE rfl 71 rfl rfl (.bool o1) (by kernel_rfl) fun a hE => ?_
      refine st_run hE rfl 72 rfl rfl (.bool (!((y9.2 == 20) == o1))) (run_bool_neq rfl (by kernel_rfl) (hE.eval rfl) (hE.eval rfl)) fun a hE => ?_
      refine st_pure hE rfl 73 rfl rfl (.bool (!((y9.2 == 20) == o1))) (by kernel_rfl) fun a hE => ?_
      have hE := hE.re (t := 73) rfl (congrArg Value.bool (and_t (e := (!((y9.2 == 20) == o1))) hb))
      exact st_nil (n_then ⟨hE.sel ⟨rfl, trivial⟩, hS⟩)
    · have hE := hE.bool (t := 68) rfl hb
      refine st_not hE rfl 69 rfl rfl fun a hE => ?_
      refine st_not hE rfl 70 rfl rfl fun a hE => ?_
      refine st_not hE rfl 71 rfl rfl fun a hE => ?_
      refine st_not hE rfl 72 rfl rfl fun a hE => ?_
      refine st_pure hE rfl 73 rfl rfl (.bool false) (by kernel_rfl) fun a hE => ?_
      have hE := hE.re (t := 73) rfl (congrArg Value.bool (and_f (e := (!((y9.2 == 20) == o1))) hb))
      exact st_nil (n_then ⟨hE.sel ⟨rfl, trivial⟩, hS⟩)
  rintro a w ⟨hE, hS⟩
  refine st_pure hE rfl 74 rfl rfl (.bool (((y9.2 == 0) == o1) && (!((y9.2 == 20) == o1)))) (by kernel_rfl) fun a hE => ?_
  obtain ⟨y10, h10, hF⟩ := bind_some hF
  refine st_cut 2 (fun a w => Env 77 a [(76, .bool y10)] ∧ Sep [] w0 w [.ro F0 (Rd F0 13 a0 x0.length k0 (x0.map api_Dir.enc))]) ?_ ?_
  · rcases Bool.eq_false_or_eq_true (((y9.2 == 0) == o1) && (!((y9.2 == 20) == o1))) with hb | hb
    · have hE := hE.bool (t := 74) rfl hb
      have h10 := if_t h10 hb
      obtain ⟨y11, h11, h10⟩ := bind_some h10
      refine go_call hE rfl 75 rfl rfl 18 _ (by kernel_rfl) (W_law11_awake  _ h11 _ ) fun a v w hR hE => ?_
      obtain ⟨rfl, hq⟩ := hR
      have hS := hS.call hq rfl
      refine st_pure hE rfl 76 rfl rfl (.bool y11) (by kernel_rfl) fun a hE => ?_
      obtain rfl := Option.some.inj h10
      exact st_nil (n_then ⟨hE.sel ⟨rfl, trivial⟩, hS⟩)
    · have hE := hE.bool (t := 74) rfl hb
      have h10 := if_f h10 hb
      refine st_not hE rfl 75 rfl rfl fun a hE => ?_
      refine st_pure hE rfl 76 rfl rfl (.bool false) (by kernel_rfl) fun a hE => ?_
      obtain rfl := Option.some.inj h10
      exact st_nil (n_then ⟨hE.sel ⟨rfl, trivial⟩, hS⟩)
  rintro a w ⟨hE, hS⟩
  refine st_pure hE rfl 4 rfl rfl (.bool y10) (by kernel_rfl) fun a hE => ?_
  refine st_nil ?_
  refine n_then ?_
  refine wp_ret ?_
  obtain rfl := Option.some.inj hF
  exact out (rs := [.tmp 4]) (vs := [.bool y10]) rfl hE hS (.cons (.tmp rfl) .nil) ⟨rfl, hS.pick [] rfl rfl⟩
/-- filespace/filespaceref11.All -/
theorem W_ref11_All (x0 : List api_Dir) (x1 : Int) (r : Str × Int) (hF : ref11_All x0 x1 = some r) (w0 : World) {a0 : Option Addr} {k0 : Nat} {F0 : Nat → Prop} (hs0 : In F0 13 a0 x0.length k0 (x0.map api_Dir.enc) w0) : Ret Try.prog 26 #[.slice a0 x0.length k0, .int .i64 x1] w0 fun v w => v = .tuple #[S r.1, .int .i64 r.2] ∧ Sep [] w0 w [] := by
  refine enter Try.func26 rfl rfl rfl fun a hE => ?_
  have hS := Sep.start [] w0
  have hS := hS.lent hs0
  unfold ref11_All at hF
  refine wp_seq ?_
  refine r_list ?_
  refine st_pure hE rfl 4 rfl rfl (S []) (by kernel_rfl) fun a hE => ?_
  refine st_pure hE rfl 5 rfl rfl (.int .i64 0) (by kernel_rfl) fun a hE => ?_
  refine st_nil ?_
  refine n_then ?_
  refine wp_seq ?_
  refine r_list ?_
  refine st_pure hE rfl 6 rfl rfl (S []) (by kernel_rfl) fun a hE => ?_
  refine st_nil ?_
  refine n_then ?_
  refine wp_seq ?_
  refine wp_seq ?_
  refine r_list ?_
  refine st_pure hE rfl 7 rfl rfl (.int .i64 0) (by kernel_rfl) fun a hE => ?_
  refine st_nil ?_
  refine n_then ?_
  obtain ⟨o1, g1, hF⟩ := bind_some hF
  refine w_meet (fun a w => ∃ s1, o1 = .fall s1 ∧ Env 31 a [(6, S s1)] ∧ Sep [] w0 w []) ?_ ?_
  · refine wp_block ?_
    refine loop_rule g1 (fun (s1 : Str × Int) a w => Env 31 a [(0, .slice a0 x0.length k0), (1, .int .i64 x1), (6, S s1.1), (7, .int .i64 s1.2)] ∧ Sep [] w0 w [.ro F0 (Rd F0 13 a0 x0.length k0 (x0.map api_Dir.enc))]) ?_ ?_
    · exact ⟨hE.sel ⟨rfl, rfl, rfl, rfl, trivial⟩, hS.pick [0] rfl rfl⟩
    rintro s1 a w ⟨hE, hS⟩ st hB1 hD1
    unfold ref11_All_L1 at hB1
    refine wp_seq ?_
    refine wp_seq ?_
    refine r_list ?_
    refine st_pure hE rfl 10 rfl rfl (.int .i64 s1.2) (by kernel_rfl) fun a hE => ?_
    refine st_pure hE rfl 11 rfl rfl (.slice a0 x0.length k0) (by kernel_rfl) fun a hE => ?_
    refine st_pure hE rfl 12 rfl rfl (.int .i64 (x0.length : Int)) (by kernel_rfl) fun a hE => ?_
    refine st_pure hE rfl 13 rfl rfl (.bool (decide (s1.2 ≤ (x0.length : Int)))) (by kernel_rfl) fun a hE => ?_
    refine st_nil ?_
    refine n_then ?_
    rcases (Bool.eq_false_or_eq_true (decide (s1.2 ≤ (x0.length : Int)))).symm with hb | hb
    · have hB1 := if_f hB1 hb
      refine c_false hE rfl hb ?_
      refine wp_exit ?_
      refine e_then (e_then (e_in ?_))
      obtain rfl := Option.some.inj hB1
      have hd := hD1 _ rfl
      subst hd
      refine n_then ?_
      exact ⟨_, rfl, hE.sel ⟨rfl, trivial⟩, hS.pick [] rfl rfl⟩
    have hB1 := if_t hB1 hb
    refine c_true hE rfl hb ?_
    refine wp_skip ?_
    refine n_then ?_
    refine wp_seq ?_
    refine wp_block ?_
    refine wp_seq ?_
    refine r_list ?_
    refine st_pure hE rfl 17 rfl rfl (.slice a0 x0.length k0) (by kernel_rfl) fun a hE => ?_
    refine st_pure hE rfl 18 rfl rfl (S s1.1) (by kernel_rfl) fun a hE => ?_
    refine st_pure hE rfl 19 rfl rfl (.int .i64 (s1.1.length : Int)) (by kernel_rfl) fun a hE => ?_
    refine st_pure hE rfl 20 rfl rfl (.int .i64 x1) (by kernel_rfl) fun a hE => ?_
    obtain ⟨y1, h1, hB1⟩ := bind_some hB1
    refine go_call hE rfl 21 rfl rfl 21 _ (by kernel_rfl) (W_ref11_Page x0 (s1.1.length : Int) x1 _ h1 _ (hS.in_ (i := 0) rfl .ro)) fun a v w hR hE => ?_
    obtain ⟨rfl, hq⟩ := hR
    have hS := hS.call hq rfl
    refine st_pure hE rfl 16 rfl rfl (.tuple #[S y1.1, .int .i64 y1.2]) (by kernel_rfl) fun a hE => ?_
    refine st_pure hE rfl 22 rfl rfl (S y1.1) (by kernel_rfl) fun a hE => ?_
    refine st_pure hE rfl 23 rfl rfl (.int .i64 y1.2) (by kernel_rfl) fun a hE => ?_
    refine st_pure hE rfl 8 rfl rfl (S y1.1) (by kernel_rfl) fun a hE => ?_
    refine st_pure hE rfl 9 rfl rfl (.int .i64 y1.2) (by kernel_rfl) fun a hE => ?_
    refine st_nil ?_
    refine n_then ?_
    refine wp_seq ?_
    refine wp_seq ?_
    refine r_list ?_
    refine st_pure hE rfl 24 rfl rfl (.int .i64 y1.2) (by kernel_rfl) fun a hE => ?_
    refine st_pure hE rfl 25 rfl rfl (.bool (y1.2 != 0)) (by kernel_rfl) fun a hE => ?_
    refine st_nil ?_
    refine n_then ?_
    rcases Bool.eq_false_or_eq_true (y1.2 != 0) with hb | hb
    · have hB1 := if_t hB1 hb
      refine c_true hE rfl hb ?_
      refine wp_seq ?_
      refine r_list ?_
      refine st_pure hE rfl 26 rfl rfl (.int .i64 y1.2) (by kernel_rfl) fun a hE => ?_
      refine st_pure hE rfl 4 rfl rfl (S []) (by kernel_rfl) fun a hE => ?_
      refine st_pure hE rfl 5 rfl rfl (.int .i64 y1.2) (by kernel_rfl) fun a hE => ?_
      refine st_nil ?_
      refine n_then ?_
      refine wp_ret ?_
      obtain rfl := Option.some.inj hB1
      have hd := hD1 _ rfl
      subst hd
      obtain rfl := Option.some.inj hF
      refine r_then (r_in (r_then (r_then (r_in (r_then (r_then ?_))))))
      exact out (rs := [.tmp 4, .tmp 5]) (vs := [S [], .int .i64 y1.2]) rfl hE hS (.cons (.tmp rfl) (.cons (.tmp rfl) .nil)) ⟨rfl, hS.pick [] rfl rfl⟩
    have hB1 := if_f hB1 hb
    refine c_false hE rfl hb ?_
    refine wp_skip ?_
    refine n_then ?_
    refine r_list ?_
    refine st_pure hE rfl 27 rfl rfl (S s1.1) (by kernel_rfl) fun a hE => ?_
    refine st_pure hE rfl 28 rfl rfl (S y1.1) (by kernel_rfl) fun a hE => ?_
    obtain ⟨y2, h2, hB1⟩ := bind_some hB1
    refine st_run hE rfl 29 rfl rfl (S y2) (run_cat rfl (hE.eval rfl) (hE.eval rfl) h2) fun a hE => ?_
    refine st_pure hE rfl 6 rfl rfl (S y2) (by kernel_rfl) fun a hE => ?_
    refine st_nil ?_
    refine n_in ?_
    refine n_then ?_
    refine r_list ?_
    refine st_pure hE rfl 14 rfl rfl (.int .i64 s1.2) (by kernel_rfl) fun a hE => ?_
    refine st_pure hE rfl 15 rfl rfl (.int .i64 (w64 (s1.2 + 1))) (by kernel_rfl) fun a hE => ?_
    refine st_pure hE rfl 7 rfl rfl (.int .i64 (w64 (s1.2 + 1))) (by kernel_rfl) fun a hE => ?_
    refine st_nil ?_
    obtain rfl := Option.some.inj hB1
    refine n_then ?_
    exact ⟨_, rfl, hE.sel ⟨rfl, rfl, rfl, rfl, trivial⟩, hS.pick [0] rfl rfl⟩
  rintro a w ⟨s1, rfl, hE, hS⟩
  replace hF := hF
  refine n_then ?_
  refine wp_seq ?_
  refine r_list ?_
  refine st_pure hE rfl 30 rfl rfl (S s1) (by kernel_rfl) fun a hE => ?_
  refine st_pure hE rfl 4 rfl rfl (S s1) (by kernel_rfl) fun a hE => ?_
  refine st_pure hE rfl 5 rfl rfl (.int .i64 0) (by kernel_rfl) fun a hE => ?_
  refine st_nil ?_
  refine n_then ?_
  refine wp_ret ?_
  obtain rfl := Option.some.inj hF
  exact out (rs := [.tmp 4, .tmp 5]) (vs := [S s1, .int .i64 0]) rfl hE hS (.cons (.tmp rfl) (.cons (.tmp rfl) .nil)) ⟨rfl, hS.pick [] rfl rfl⟩
/-- filespace/filespacelaw11.DirreadAlls -/
theorem W_law11_DirreadAlls (x0 : List api_Dir) (x1 : Int) (r : Bool) (hF : law11_DirreadAlls x0 x1 = some r) (w0 : World) {a0 : Option Addr} {k0 : Nat} {F0 : Nat → Prop} (hs0 : In F0 13 a0 x0.length k0 (x0.map api_Dir.enc) w0) : Ret Try.prog 6 #[.slice a0 x0.length k0, .int .i64 x1] w0 fun v w => v = .bool r ∧ Sep [] w0 w [] := by
  refine enter Try.func6 rfl rfl rfl fun a hE => ?_
  have hS := Sep.start [] w0
  have hS := hS.lent hs0
  unfold law11_DirreadAlls at hF
  refine wp_seq ?_
  refine r_list ?_
  refine st_pure hE rfl 4 rfl rfl (.bool false) (by kernel_rfl) fun a hE => ?_
  refine st_nil ?_
  refine n_then ?_
  refine wp_seq ?_
  refine wp_seq ?_
  refine r_list ?_
  refine st_pure hE rfl 9 rfl rfl (.slice a0 x0.length k0) (by kernel_rfl) fun a hE => ?_
  obtain ⟨y1, h1, hF⟩ := bind_some hF
  refine go_call hE rfl 10 rfl rfl 19 _ (by kernel_rfl) (W_law11_small x0 _ h1 _ (hS.in_ (i := 0) rfl .ro)) fun a v w hR hE => ?_
  obtain ⟨rfl, hq⟩ := hR
  have hS := hS.call hq rfl
  refine st_pure hE rfl 11 rfl rfl (.bool (!y1)) (by kernel_rfl) fun a hE => ?_
  refine st_nil ?_
  refine n_then ?_
  rcases Bool.eq_false_or_eq_true (!y1) with hb | hb
  · have hF := if_t hF hb
    refine c_true hE rfl hb ?_
    refine wp_seq ?_
    refine r_list ?_
    obtain ⟨y2, h2, hF⟩ := bind_some hF
    refine go_call hE rfl 12 rfl rfl 18 _ (by kernel_rfl) (W_law11_awake  _ h2 _ ) fun a v w hR hE => ?_
    obtain ⟨rfl, hq⟩ := hR
    have hS := hS.call hq rfl
    refine st_pure hE rfl 4 rfl rfl (.bool y2) (by kernel_rfl) fun a hE => ?_
    refine st_nil ?_
    refine n_then ?_
    refine wp_ret ?_
    obtain rfl := Option.some.inj hF
    refine r_then ?_
    exact out (rs := [.tmp 4]) (vs := [.bool y2]) rfl hE hS (.cons (.tmp rfl) .nil) ⟨rfl, hS.pick [] rfl rfl⟩
  have hF := if_f hF hb
  refine c_false hE rfl hb ?_
  refine wp_skip ?_
  refine n_then ?_
  refine wp_seq ?_
  refine r_list ?_
  refine st_pure hE rfl 14 rfl rfl (.slice a0 x0.length k0) (by kernel_rfl) fun a hE => ?_
  refine st_pure hE rfl 15 rfl rfl (.int .i64 x1) (by kernel_rfl) fun a hE => ?_
  obtain ⟨y3, h3, hF⟩ := bind_some hF
  refine go_call hE rfl 16 rfl rfl 25 _ (by kernel_rfl) (W_dirread_All x0 x1 _ h3 _ (hS.in_ (i := 0) rfl .ro)) fun a v w hR hE => ?_
  obtain ⟨rfl, hq⟩ := hR
  have hS := hS.call hq rfl
  refine st_pure hE rfl 13 rfl rfl (.tuple #[S y3.1, .int .i64 y3.2]) (by kernel_rfl) fun a hE => ?_
  refine st_pure hE rfl 17 rfl rfl (S y3.1) (by kernel_rfl) fun a hE => ?_
  refine st_pure hE rfl 18 rfl rfl (.int .i64 y3.2) (by kernel_rfl) fun a hE => ?_
  refine st_pure hE rfl 5 rfl rfl (S y3.1) (by kernel_rfl) fun a hE => ?_
  refine st_pure hE rfl 6 rfl rfl (.int .i64 y3.2) (by kernel_rfl) fun a hE => ?_
  refine st_nil ?_
  refine n_then ?_
  refine wp_seq ?_
  refine r_list ?_
  refine st_pure hE rfl 20 rfl rfl (.slice a0 x0.length k0) (by kernel_rfl) fun a hE => ?_
  refine st_pure hE rfl 21 rfl rfl (.int .i64 x1) (by kernel_rfl) fun a hE => ?_
  obtain ⟨y4, h4, hF⟩ := bind_some hF
  refine go_call hE rfl 22 rfl rfl 26 _ (by kernel_rfl) (W_ref11_All x0 x1 _ h4 _ (hS.in_ (i := 0) rfl .ro)) fun a v w hR hE => ?_
  obtain ⟨rfl, hq⟩ := hR
  have hS := hS.call hq rfl
  refine st_pure hE rfl 19 rfl rfl (.tuple #[S y4.1, .int .i64 y4.2]) (by kernel_rfl) fun a hE => ?_
  refine st_pure hE rfl 23 rfl rfl (S y4.1) (by kernel_rfl) fun a hE => ?_
  refine st_pure hE rfl 24 rfl rfl (.int .i64 y4.2) (by kernel_rfl) fun a hE => ?_
  refine st_pure hE rfl 7 rfl rfl (S y4.1) (by kernel_rfl) fun a hE => ?_
  refine st_pure hE rfl 8 rfl rfl (.int .i64 y4.2) (by kernel_rfl) fun a hE => ?_
  refine st_nil ?_
  refine n_then ?_
  refine wp_seq ?_
  refine r_list ?_
  refine st_pure hE rfl 25 rfl rfl (S y3.1) (by kernel_rfl) fun a hE => ?_
  refine st_pure hE rfl 26 rfl rfl (S y4.1) (by kernel_rfl) fun a hE => ?_
  refine st_run hE rfl 27 rfl rfl (.bool (y3.1 == y4.1)) (run_str_eql rfl (hE.eval rfl) (hE.eval rfl)) fun a hE => ?_
  refine st_pure hE rfl 28 rfl rfl (.bool (y3.1 == y4.1)) (by kernel_rfl) fun a hE => ?_
  refine st_cut 4 (fun a w => Env 36 a [(32, .bool ((y3.1 == y4.1) && (y3.2 == y4.2)))] ∧ Sep [] w0 w [.ro F0 (Rd F0 13 a0 x0.length k0 (x0.map api_Dir.enc))]) ?_ ?_
  · rcases Bool.eq_false_or_eq_true (y3.1 == y4.1) with hb | hb
    · have hE := hE.bool (t := 28) rfl hb
      refine st_pure hE rfl 29 rfl rfl (.int .i64 y3.2) (by kernel_rfl) fun a hE => ?_
      refine st_pure hE rfl 30 rfl rfl (.int .i64 y4.2) (by kernel_rfl) fun a hE => ?_
      refine st_pure hE rfl 31 rfl rfl (.bool (y3.2 == y4.2)) (by kernel_rfl) fun a hE => ?_
      refine st_pure hE rfl 32 rfl rfl (.bool (y3.2 == y4.2)) (by kernel_rfl) fun a hE => ?_
      have hE := hE.re (t := 32) rfl (congrArg Value.bool (and_t (e := (y3.2 == y4.2)) hb))
      exact st_nil (n_then ⟨hE.sel ⟨rfl, trivial⟩, hS⟩)
    · have hE := hE.bool (t := 28) rfl hb
      refine st_not hE rfl 29 rfl rfl fun a hE => ?_
      refine st_not hE rfl 30 rfl rfl fun a hE => ?_
      refine st_not hE rfl 31 rfl rfl fun a hE => ?_
      refine st_pure hE rfl 32 rfl rfl (.bool false) (by kernel_rfl) fun a hE => ?_
      have hE := hE.re (t := 32) rfl (congrArg Value.bool (and_f (e := (y3.2 == y4.2)) hb))
      exact st_nil (n_then ⟨hE.sel ⟨rfl, trivial⟩, hS⟩)
  rintro a w ⟨hE, hS⟩
  refine st_pure hE rfl 33 rfl rfl (.bool ((y3.1 == y4.1) && (y3.2 == y4.2))) (by kernel_rfl) fun a hE => ?_
  obtain ⟨y5, h5, hF⟩ := bind_some hF
  refine st_cut 2 (fun a w => Env 36 a [(35, .bool y5)] ∧ Sep [] w0 w [.ro F0 (Rd F0 13 a0 x0.length k0 (x0.map api_Dir.enc))]) ?_ ?_
  · rcases Bool.eq_false_or_eq_true ((y3.1 == y4.1) && (y3.2 == y4.2)) with hb | hb
    · have hE := hE.bool (t := 33) rfl hb
      have h5 := if_t h5 hb
      obtain ⟨y6, h6, h5⟩ := bind_some h5
      refine go_call hE rfl 34 rfl rfl 18 _ (by kernel_rfl) (W_law11_awake  _ h6 _ ) fun a v w hR hE => ?_
      obtain ⟨rfl, hq⟩ := hR
      have hS := hS.call hq rfl
      refine st_pure hE rfl 35 rfl rfl (.bool y6) (by kernel_rfl) fun a hE => ?_
      obtain rfl := Option.some.inj h5
      exact st_nil (n_then ⟨hE.sel ⟨rfl, trivial⟩, hS⟩)
    · have hE := hE.bool (t := 33) rfl hb
      have h5 := if_f h5 hb
      refine st_not hE rfl 34 rfl rfl fun a hE => ?_
      refine st_pure hE rfl 35 rfl rfl (.bool false) (by kernel_rfl) fun a hE => ?_
      obtain rfl := Option.some.inj h5
      exact st_nil (n_then ⟨hE.sel ⟨rfl, trivial⟩, hS⟩)
  rintro a w ⟨hE, hS⟩
  refine st_pure hE rfl 4 rfl rfl (.bool y5) (by kernel_rfl) fun a hE => ?_
  refine st_nil ?_
  refine n_then ?_
  refine wp_ret ?_
  obtain rfl := Option.some.inj hF
  exact out (rs := [.tmp 4]) (vs := [.bool y5]) rfl hE hS (.cons (.tmp rfl) .nil) ⟨rfl, hS.pick [] rfl rfl⟩
/-- filespace/filespacelaw11.DirreadJoins -/
theorem W_law11_DirreadJoins (x0 : List api_Dir) (x1 : Int) (r : Bool) (hF : law11_DirreadJoins x0 x1 = some r) (w0 : World) {a0 : Option Addr} {k0 : Nat} {F0 : Nat → Prop} (hs0 : In F0 13 a0 x0.length k0 (x0.map api_Dir.enc) w0) : Ret Try.prog 7 #[.slice a0 x0.length k0, .int .i64 x1] w0 fun v w => v = .bool r ∧ Sep [] w0 w [] := by
  refine enter Try.func7 rfl rfl rfl fun a hE => ?_
  have hS := Sep.start [] w0
  have hS := hS.lent hs0
  unfold law11_DirreadJoins at hF
  refine wp_seq ?_
  refine r_list ?_
  refine st_pure hE rfl 4 rfl rfl (.bool false) (by kernel_rfl) fun a hE => ?_
  refine st_nil ?_
  refine n_then ?_
  refine wp_seq ?_
  refine wp_seq ?_
  refine r_list ?_
  refine st_pure hE rfl 14 rfl rfl (.slice a0 x0.length k0) (by kernel_rfl) fun a hE => ?_
  obtain ⟨y1, h1, hF⟩ := bind_some hF
  refine go_call hE rfl 15 rfl rfl 19 _ (by kernel_rfl) (W_law11_small x0 _ h1 _ (hS.in_ (i := 0) rfl .ro)) fun a v w hR hE => ?_
  obtain ⟨rfl, hq⟩ := hR
  have hS := hS.call hq rfl
  refine st_pure hE rfl 16 rfl rfl (.bool (!y1)) (by kernel_rfl) fun a hE => ?_
  refine st_nil ?_
  refine n_then ?_
  rcases Bool.eq_false_or_eq_true (!y1) with hb | hb
  · have hF := if_t hF hb
    refine c_true hE rfl hb ?_
    refine wp_seq ?_
    refine r_list ?_
    obtain ⟨y2, h2, hF⟩ := bind_some hF
    refine go_call hE rfl 17 rfl rfl 18 _ (by kernel_rfl) (W_law11_awake  _ h2 _ ) fun a v w hR hE => ?_
    obtain ⟨rfl, hq⟩ := hR
    have hS := hS.call hq rfl
    refine st_pure hE rfl 4 rfl rfl (.bool y2) (by kernel_rfl) fun a hE => ?_
    refine st_nil ?_
    refine n_then ?_
    refine wp_ret ?_
    obtain rfl := Option.some.inj hF
    refine r_then ?_
    exact out (rs := [.tmp 4]) (vs := [.bool y2]) rfl hE hS (.cons (.tmp rfl) .nil) ⟨rfl, hS.pick [] rfl rfl⟩
  have hF := if_f hF hb
  refine c_false hE rfl hb ?_
  refine wp_skip ?_
  refine n_then ?_
  refine wp_seq ?_
  refine r_list ?_
  refine st_pure hE rfl 19 rfl rfl (.slice a0 x0.length k0) (by kernel_rfl) fun a hE => ?_
  refine st_pure hE rfl 20 rfl rfl (.int .i64 x1) (by kernel_rfl) fun a hE => ?_
  obtain ⟨y3, h3, hF⟩ := bind_some hF
  refine go_call hE rfl 21 rfl rfl 25 _ (by kernel_rfl) (W_dirread_All x0 x1 _ h3 _ (hS.in_ (i := 0) rfl .ro)) fun a v w hR hE => ?_
  obtain ⟨rfl, hq⟩ := hR
  have hS := hS.call hq rfl
  refine st_pure hE rfl 18 rfl rfl (.tuple #[S y3.1, .int .i64 y3.2]) (by kernel_rfl) fun a hE => ?_
  refine st_pure hE rfl 22 rfl rfl (S y3.1) (by kernel_rfl) fun a hE => ?_
  refine st_pure hE rfl 23 rfl rfl (.int .i64 y3.2) (by kernel_rfl) fun a hE => ?_
  refine st_pure hE rfl 5 rfl rfl (S y3.1) (by kernel_rfl) fun a hE => ?_
  refine st_pure hE rfl 6 rfl rfl (.int .i64 y3.2) (by kernel_rfl) fun a hE => ?_
  refine st_nil ?_
  refine n_then ?_
  refine wp_seq ?_
  refine r_list ?_
  refine st_pure hE rfl 25 rfl rfl (.slice a0 x0.length k0) (by kernel_rfl) fun a hE => ?_
  obtain ⟨y4, h4, hF⟩ := bind_some hF
  refine go_call hE rfl 26 rfl rfl 22 _ (by kernel_rfl) (W_dirread_Bounds x0 _ h4 _ (hS.in_ (i := 0) rfl .ro)) fun a v w hR hE => ?_
  obtain ⟨A1, c1, rfl, hq⟩ := hR
  have hS := hS.call hq rfl
  refine st_pure hE rfl 24 rfl rfl (.tuple #[.slice A1 y4.1.length c1, .int .i64 y4.2]) (by kernel_rfl) fun a hE => ?_
  refine st_pure hE rfl 27 rfl rfl (.slice A1 y4.1.length c1) (by kernel_rfl) fun a hE => ?_
  refine st_pure hE rfl 28 rfl rfl (.int .i64 y4.2) (by kernel_rfl) fun a hE => ?_
  refine st_pure hE rfl 7 rfl rfl (.slice A1 y4.1.length c1) (by kernel_rfl) fun a hE => ?_
  refine st_pure hE rfl 8 rfl rfl (.int .i64 y4.2) (by kernel_rfl) fun a hE => ?_
  refine st_nil ?_
  refine n_then ?_
  refine wp_seq ?_
  refine wp_seq ?_
  refine r_list ?_
  refine st_pure hE rfl 29 rfl rfl (.int .i64 y3.2) (by kernel_rfl) fun a hE => ?_
  refine st_pure hE rfl 30 rfl rfl (.bool (y3.2 != 0)) (by kernel_rfl) fun a hE => ?_
  refine st_pure hE rfl 31 rfl rfl (.bool (y3.2 != 0)) (by kernel_rfl) fun a hE => ?_
  refine st_cut 3 (fun a w => Env 122 a [(34, .bool ((y3.2 != 0) || (y4.2 != 0))), (0, .slice a0 x0.length k0), (1, .int .i64 x1), (5, S y3.1), (7, .slice A1 y4.1.length c1)] ∧ Sep [] w0 w [.row 3 1 A1 y4.1.length c1 (y4.1.map (eI .i64)), .ro F0 (Rd F0 13 a0 x0.length k0 (x0.map api_Dir.enc))]) ?_ ?_
  · rcases Bool.eq_false_or_eq_true (y3.2 != 0) with hb | hb
    · have hE := hE.bool (t := 31) rfl hb
      refine st_not hE rfl 32 rfl rfl fun a hE => ?_
      refine st_not hE rfl 33 rfl rfl fun a hE => ?_
      refine st_pure hE rfl 34 rfl rfl (.bool true) (by kernel_rfl) fun a hE => ?_
      have hE := hE.re (t := 34) rfl (congrArg Value.bool (or_t (e := (y4.2 != 0)) hb))
      exact st_nil (n_then ⟨hE.sel ⟨rfl, rfl, rfl, rfl, rfl, trivial⟩, hS⟩)
    · have hE := hE.bool (t := 31) rfl hb
      refine st_pure hE rfl 32 rfl rfl (.int .i64 y4.2) (by kernel_rfl) fun a hE => ?_
      refine st_pure hE rfl 33 rfl rfl (.bool (y4.2 != 0)) (by kernel_rfl) fun a hE => ?_
      refine st_pure hE rfl 34 rfl rfl (.bool (y4.2 != 0)) (by kernel_rfl) fun a hE => ?_
      have hE := hE.re (t := 34) rfl (congrArg Value.bool (or_f (e := (y4.2 != 0)) hb))
      exact st_nil (n_then ⟨hE.sel ⟨rfl, rfl, rfl, rfl, rfl, trivial⟩, hS⟩)
  rintro a w ⟨hE, hS⟩
  refine st_nil ?_
  refine n_then ?_
  rcases Bool.eq_false_or_eq_true ((y3.2 != 0) || (y4.2 != 0)) with hb | hb
  · have hF := if_t hF hb
    refine c_true hE rfl hb ?_
    refine wp_seq ?_
    refine r_list ?_
    refine st_pure hE rfl 35 rfl rfl (S y3.1) (by kernel_rfl) fun a hE => ?_
    refine st_run hE rfl 36 rfl rfl (.bool (y3.1 == [])) (run_str_eql rfl (hE.eval rfl) (hE.eval rfl)) fun a hE => ?_
    refine st_pure hE rfl 37 rfl rfl (.bool (y3.1 == [])) (by kernel_rfl) fun a hE => ?_
    obtain ⟨y5, h5, hF⟩ := bind_some hF
    refine st_cut 2 (fun a w => Env 122 a [(39, .bool y5)] ∧ Sep [] w0 w [.row 3 1 A1 y4.1.length c1 (y4.1.map (eI .i64)), .ro F0 (Rd F0 13 a0 x0.length k0 (x0.map api_Dir.enc))]) ?_ ?_
    · rcases Bool.eq_false_or_eq_true (y3.1 == []) with hb | hb
      · have hE := hE.bool (t := 37) rfl hb
        have h5 := if_t h5 hb
        obtain ⟨y6, h6, h5⟩ := bind_some h5
        refine go_call hE rfl 38 rfl rfl 18 _ (by kernel_rfl) (W_law11_awake  _ h6 _ ) fun a v w hR hE => ?_
        obtain ⟨rfl, hq⟩ := hR
        have hS := hS.call hq rfl
        refine st_pure hE rfl 39 rfl rfl (.bool y6) (by kernel_rfl) fun a hE => ?_
        obtain rfl := Option.some.inj h5
        exact st_nil (n_then ⟨hE.sel ⟨rfl, trivial⟩, hS⟩)
      · have hE := hE.bool (t := 37) rfl hb
        have h5 := if_f h5 hb
        refine st_not hE rfl 38 rfl rfl fun a hE => ?_
        refine st_pure hE rfl 39 rfl rfl (.bool false) (by kernel_rfl) fun a hE => ?_
        obtain rfl := Option.some.inj h5
        exact st_nil (n_then ⟨hE.sel ⟨rfl, trivial⟩, hS⟩)
    rintro a w ⟨hE, hS⟩
    refine st_pure hE rfl 4 rfl rfl (.bool y5) (by kernel_rfl) fun a hE => ?_
    refine st_nil ?_
    refine n_then ?_
    refine wp_ret ?_
    obtain rfl := Option.some.inj hF
    refine r_then ?_
    exact out (rs := [.tmp 4]) (vs := [.bool y5]) rfl hE hS (.cons (.tmp rfl) .nil) ⟨rfl, hS.pick [] rfl rfl⟩
  have hF := if_f hF hb
  refine c_false hE rfl hb ?_
  refine wp_skip ?_
  refine n_then ?_
  refine wp_seq ?_
  refine r_list ?_
  refine st_pure hE rfl 9 rfl rfl (S []) (by kernel_rfl) fun a hE => ?_
  refine st_nil ?_
  refine n_then ?_
  refine wp_seq ?_
  refine wp_seq ?_
  refine r_list ?_
  refine st_pure hE rfl 10 rfl rfl (.int .i64 0) (by kernel_rfl) fun a hE => ?_
  refine st_nil ?_
  refine n_then ?_
  obtain ⟨o1, g1, hF⟩ := bind_some hF
  refine w_meet (fun a w => ∃ s1, o1 = .fall s1 ∧ Env 122 a [(5, S y3.1), (9, S s1)] ∧ Sep [] w0 w []) ?_ ?_
  · refine wp_block ?_
    refine loop_rule g1 (fun (s1 : Str × Int) a w => Env 122 a [(0, .slice a0 x0.length k0), (1, .int .i64 x1), (5, S y3.1), (7, .slice A1 y4.1.length c1), (9, S s1.1), (10, .int .i64 s1.2)] ∧ Sep [] w0 w [.ro F0 (Rd F0 13 a0 x0.length k0 (x0.map api_Dir.enc)), .row 3 1 A1 y4.1.length c1 (y4.1.map (eI .i64))]) ?_ ?_
    · exact ⟨hE.sel ⟨rfl, rfl, rfl, rfl, rfl, rfl, trivial⟩, hS.pick [1, 0] rfl rfl⟩
    rintro s1 a w ⟨hE, hS⟩ st hB1 hD1
    unfold law11_DirreadJoins_L1 at hB1
    refine wp_seq ?_
    refine wp_seq ?_
    refine r_list ?_
    refine st_pure hE rfl 40 rfl rfl (.int .i64 s1.2) (by kernel_rfl) fun a hE => ?_
    refine st_pure hE rfl 41 rfl rfl (.slice a0 x0.length k0) (by kernel_rfl) fun a hE => ?_
    refine st_pure hE rfl 42 rfl rfl (.int .i64 (x0.length : Int)) (by kernel_rfl) fun a hE => ?_
    refine st_pure hE rfl 43 rfl rfl (.bool (decide (s1.2 ≤ (x0.length : Int)))) (by kernel_rfl) fun a hE => ?_
    refine st_nil ?_
    refine n_then ?_
    rcases (Bool.eq_false_or_eq_true (decide (s1.2 ≤ (x0.length : Int)))).symm with hb | hb
    · have hB1 := if_f hB1 hb
      refine c_false hE rfl hb ?_
      refine wp_exit ?_
      refine e_then (e_then (e_in ?_))
      obtain rfl := Option.some.inj hB1
      have hd := hD1 _ rfl
      subst hd
      refine n_then ?_
      exact ⟨_, rfl, hE.sel ⟨rfl, rfl, trivial⟩, hS.pick [] rfl rfl⟩
    have hB1 := if_t hB1 hb
    refine c_true hE rfl hb ?_
    refine wp_skip ?_
    refine n_then ?_
    refine wp_seq ?_
    refine wp_block ?_
    refine wp_seq ?_
    refine r_list ?_
    refine st_pure hE rfl 47 rfl rfl (.slice a0 x0.length k0) (by kernel_rfl) fun a hE => ?_
    refine st_pure hE rfl 48 rfl rfl (S s1.1) (by kernel_rfl) fun a hE => ?_
    refine st_pure hE rfl 49 rfl rfl (.int .i64 (s1.1.length : Int)) (by kernel_rfl) fun a hE => ?_
    refine st_pure hE rfl 50 rfl rfl (.int .i64 x1) (by kernel_rfl) fun a hE => ?_
    obtain ⟨y7, h7, hB1⟩ := bind_some hB1
    refine go_call hE rfl 51 rfl rfl 20 _ (by kernel_rfl) (W_dirread_Page x0 (s1.1.length : Int) x1 _ h7 _ (hS.in_ (i := 0) rfl .ro)) fun a v w hR hE => ?_
    obtain ⟨rfl, hq⟩ := hR
    have hS := hS.call hq rfl
    refine st_pure hE rfl 46 rfl rfl (.tuple #[S y7.1, .int .i64 y7.2]) (by kernel_rfl) fun a hE => ?_
    refine st_pure hE rfl 52 rfl rfl (S y7.1) (by kernel_rfl) fun a hE => ?_
    refine st_pure hE rfl 53 rfl rfl (.int .i64 y7.2) (by kernel_rfl) fun a hE => ?_
    refine st_pure hE rfl 11 rfl rfl (S y7.1) (by kernel_rfl) fun a hE => ?_
    refine st_pure hE rfl 12 rfl rfl (.int .i64 y7.2) (by kernel_rfl) fun a hE => ?_
    refine st_nil ?_
    refine n_then ?_
    refine wp_seq ?_
    refine wp_seq ?_
    refine r_list ?_
    refine st_pure hE rfl 54 rfl rfl (.int .i64 y7.2) (by kernel_rfl) fun a hE => ?_
    refine st_pure hE rfl 55 rfl rfl (.bool (y7.2 != 0)) (by kernel_rfl) fun a hE => ?_
    refine st_pure hE rfl 56 rfl rfl (.bool (y7.2 != 0)) (by kernel_rfl) fun a hE => ?_
    refine st_cut 5 (fun a w => Env 122 a [(61, .bool ((y7.2 != 0) || (decide ((y7.1.length : Int) > x1)))), (0, .slice a0 x0.length k0), (1, .int .i64 x1), (5, S y3.1), (7, .slice A1 y4.1.length c1), (9, S s1.1), (10, .int .i64 s1.2), (11, S y7.1)] ∧ Sep [] w0 w [.ro F0 (Rd F0 13 a0 x0.length k0 (x0.map api_Dir.enc)), .row 3 1 A1 y4.1.length c1 (y4.1.map (eI .i64))]) ?_ ?_
    · rcases Bool.eq_false_or_eq_true (y7.2 != 0) with hb | hb
      · have hE := hE.bool (t := 56) rfl hb
        refine st_not hE rfl 57 rfl rfl fun a hE => ?_
        refine st_not hE rfl 58 rfl rfl fun a hE => ?_
        refine st_not hE rfl 59 rfl rfl fun a hE => ?_
        refine st_not hE rfl 60 rfl rfl fun a hE => ?_
        refine st_pure hE rfl 61 rfl rfl (.bool true) (by kernel_rfl) fun a hE => ?_
        have hE := hE.re (t := 61) rfl (congrArg Value.bool (or_t (e := (decide ((y7.1.length : Int) > x1))) hb))
        exact st_nil (n_then ⟨hE.sel ⟨rfl, rfl, rfl, rfl, rfl, rfl, rfl, rfl, trivial⟩, hS⟩)
      · have hE := hE.bool (t := 56) rfl hb
        refine st_pure hE rfl 57 rfl rfl (S y7.1) (by kernel_rfl) fun a hE => ?_
        refine st_pure hE rfl 58 rfl rfl (.int .i64 (y7.1.length : Int)) (by kernel_rfl) fun a hE => ?_
        refine st_pure hE rfl 59 rfl rfl (.int .i64 x1) (by kernel_rfl) fun a hE => ?_
        refine st_pure hE rfl 60 rfl rfl (.bool (decide ((y7.1.length : Int) > x1))) (by kernel_rfl) fun a hE => ?_
        refine st_pure hE rfl 61 rfl rfl (.bool (decide ((y7.1.length : Int) > x1))) (by kernel_rfl) fun a hE => ?_
        have hE := hE.re (t := 61) rfl (congrArg Value.bool (or_f (e := (decide ((y7.1.length : Int) > x1))) hb))
        exact st_nil (n_then ⟨hE.sel ⟨rfl, rfl, rfl, rfl, rfl, rfl, rfl, rfl, trivial⟩, hS⟩)
    rintro a w ⟨hE, hS⟩
    refine st_pure hE rfl 62 rfl rfl (.bool ((y7.2 != 0) || (decide ((y7.1.length : Int) > x1)))) (by kernel_rfl) fun a hE => ?_
    obtain ⟨y8, h8, hB1⟩ := bind_some hB1
    refine st_cut 19 (fun a w => Env 122 a [(81, .bool y8), (0, .slice a0 x0.length k0), (1, .int .i64 x1), (5, S y3.1), (7, .slice A1 y4.1.length c1), (9, S s1.1), (10, .int .i64 s1.2), (11, S y7.1)] ∧ Sep [] w0 w [.ro F0 (Rd F0 13 a0 x0.length k0 (x0.map api_Dir.enc)), .row 3 1 A1 y4.1.length c1 (y4.1.map (eI .i64))]) ?_ ?_
    · rcases Bool.eq_false_or_eq_true ((y7.2 != 0) || (decide ((y7.1.length : Int) > x1))) with hb | hb
      · have hE := hE.bool (t := 62) rfl hb
        have h8 := if_t h8 hb
        refine st_not hE rfl 63 rfl rfl fun a hE => ?_
        refine st_not hE rfl 64 rfl rfl fun a hE => ?_
        refine st_not hE rfl 65 rfl rfl fun a hE => ?_
        refine st_not hE rfl 66 rfl rfl fun a hE => ?_
        refine st_not hE rfl 67 rfl rfl fun a hE => ?_
        refine st_not hE rfl 68 rfl rfl fun a hE => ?_
        refine st_not hE rfl 69 rfl rfl fun a hE => ?_
        refine st_not hE rfl 70 rfl rfl fun a hE => ?_
        refine st_not hE rfl 71 rfl rfl fun a hE => ?_
        refine st_not hE rfl 72 rfl rfl fun a hE => ?_
        refine st_not hE rfl 73 rfl rfl fun a hE => ?_
        refine st_not hE rfl 74 rfl rfl fun a hE => ?_
        refine st_not hE rfl 75 rfl rfl fun a hE => ?_
        refine st_not hE rfl 76 rfl rfl fun a hE => ?_
        refine st_not hE rfl 77 rfl rfl fun a hE => ?_
        refine st_not hE rfl 78 rfl rfl fun a hE => ?_
        refine st_not hE rfl 79 rfl rfl fun a hE => ?_
        refine st_not hE rfl 80 rfl rfl fun a hE => ?_
        refine st_pure hE rfl 81 rfl rfl (.bool true) (by kernel_rfl) fun a hE => ?_
        obtain rfl := Option.some.inj h8
        exact st_nil (n_then ⟨hE.sel ⟨rfl, rfl, rfl, rfl, rfl, rfl, rfl, rfl, trivial⟩, hS⟩)
      · have hE := hE.bool (t := 62) rfl hb
        have h8 := if_f h8 hb
        refine st_pure hE rfl 63 rfl rfl (S y7.1) (by kernel_rfl) fun a hE => ?_
        refine st_run hE rfl 64 rfl rfl (.bool (y7.1 == [])) (run_str_eql rfl (hE.eval rfl) (hE.eval rfl)) fun a hE => ?_
        refine st_pure hE rfl 65 rfl rfl (.int .i64 s1.2) (by kernel_rfl) fun a hE => ?_
        refine st_pure hE rfl 66 rfl rfl (.slice A1 y4.1.length c1) (by kernel_rfl) fun a hE => ?_
        refine st_pure hE rfl 67 rfl rfl (.int .i64 (y4.1.length : Int)) (by kernel_rfl) fun a hE => ?_
        refine st_pure hE rfl 68 rfl rfl (.bool (decide (s1.2 ≥ (y4.1.length : Int)))) (by kernel_rfl) fun a hE => ?_
        refine st_pure hE rfl 69 rfl rfl (.bool (decide (s1.2 ≥ (y4.1.length : Int)))) (by kernel_rfl) fun a hE => ?_
        obtain ⟨y9, h9, h8⟩ := bind_some h8
        refine st_cut 10 (fun a w => Env 122 a [(79, .bool y9), (0, .slice a0 x0.length k0), (1, .int .i64 x1), (5, S y3.1), (7, .slice A1 y4.1.length c1), (9, S s1.1), (10, .int .i64 s1.2), (11, S y7.1), (61, .bool ((y7.2 != 0) || (decide ((y7.1.length : Int) > x1)))), (62, .bool false), (63, S y7.1), (64, .bool (y7.1 == [])), (65, .int .i64 s1.2), (66, .slice A1 y4.1.length c1), (67, .int .i64 (y4.1.length : Int)), (68, .bool (decide (s1.2 ≥ (y4.1.length : Int))))] ∧ Sep [] w0 w [.ro F0 (Rd F0 13 a0 x0.length k0 (x0.map api_Dir.enc)), .row 3 1 A1 y4.1.length c1 (y4.1.map (eI .i64))]) ?_ ?_
        · rcases Bool.eq_false_or_eq_true (decide (s1.2 ≥ (y4.1.length : Int))) with hb | hb
          · have hE := hE.bool (t := 69) rfl hb
            have h9 := if_t h9 hb
            refine st_not hE rfl 70 rfl rfl fun a hE => ?_
            refine st_not hE rfl 71 rfl rfl fun a hE => ?_
            refine st_not hE rfl 72 rfl rfl fun a hE => ?_
            refine st_not hE rfl 73 rfl rfl fun a hE => ?_
            refine st_not hE rfl 74 rfl rfl fun a hE => ?_
            refine st_not hE rfl 75 rfl rfl fun a hE => ?_
            refine st_not hE rfl 76 rfl rfl fun a hE => ?_
            refine st_not hE rfl 77 rfl rfl fun a hE => ?_
            refine st_not hE rfl 78 rfl rfl fun a hE => ?_
            refine st_pure hE rfl 79 rfl rfl (.bool true) (by kernel_rfl) fun a hE => ?_
            obtain rfl := Option.some.inj h9
            exact st_nil (n_then ⟨hE.sel ⟨rfl, rfl, rfl, rfl, rfl, rfl, rfl, rfl, rfl, rfl, rfl, rfl, rfl, rfl, rfl, rfl, trivial⟩, hS⟩)
          · have hE := hE.bool (t := 69) rfl hb
            have h9 := if_f h9 hb
            refine st_pure hE rfl 70 rfl rfl (S s1.1) (by kernel_rfl) fun a hE => ?_
            refine st_pure hE rfl 71 rfl rfl (.int .i64 (s1.1.length : Int)) (by kernel_rfl) fun a hE => ?_
            refine st_pure hE rfl 72 rfl rfl (.slice A1 y4.1.length c1) (by kernel_rfl) fun a hE => ?_
            refine st_pure hE rfl 73 rfl rfl (.slice A1 y4.1.length c1) (by kernel_rfl) fun a hE => ?_
            refine st_pure hE rfl 74 rfl rfl (.int .i64 (y4.1.length : Int)) (by kernel_rfl) fun a hE => ?_
            refine st_pure hE rfl 75 rfl rfl (.int .i64 (w64 ((y4.1.length : Int) - 1))) (by kernel_rfl) fun a hE => ?_
            obtain ⟨y10, h10, h9⟩ := bind_some h9
            refine go_at (e := 3) (c := 1) hE hS rfl 76 rfl rfl 1 rfl (by kernel_rfl) (by kernel_rfl) rfl rfl rfl .row rfl h10 fun a b1 p1 hA1 hE => ?_
            refine st_run hE rfl 77 rfl rfl (.int .i64 y10) (ld_elem (k := 1) (f := (eI .i64)) (j := 0) hE hS rfl rfl rfl .row hA1 h10 rfl (by kernel_rfl)) fun a hE => ?_
            refine st_pure hE rfl 78 rfl rfl (.bool ((s1.1.length : Int) == y10)) (by kernel_rfl) fun a hE => ?_
            refine st_pure hE rfl 79 rfl rfl (.bool ((s1.1.length : Int) == y10)) (by kernel_rfl) fun a hE => ?_
            obtain rfl := Option.some.inj h9
            exact st_nil (n_then ⟨hE.sel ⟨rfl, rfl, rfl, rfl, rfl, rfl, rfl, rfl, rfl, rfl, rfl, rfl, rfl, rfl, rfl, rfl, trivial⟩, hS⟩)
        rintro a w ⟨hE, hS⟩
        refine st_run hE rfl 80 rfl rfl (.bool (!((y7.1 == []) == y9))) (run_bool_neq rfl (by kernel_rfl) (hE.eval rfl) (hE.eval rfl)) fun a hE => ?_
        refine st_pure hE rfl 81 rfl rfl (.bool (!((y7.1 == []) == y9))) (by kernel_rfl) fun a hE => ?_
        obtain rfl := Option.some.inj h8
        exact st_nil (n_then ⟨hE.sel ⟨rfl, rfl, rfl, rfl, rfl, rfl, rfl, rfl, trivial⟩, hS⟩)
    rintro a w ⟨hE, hS⟩
    refine st_nil ?_
    refine n_then ?_
    rcases Bool.eq_false_or_eq_true y8 with hb | hb
    · have hB1 := if_t hB1 hb
      refine c_true hE rfl hb ?_
      refine wp_seq ?_
      refine r_list ?_
      refine st_pure hE rfl 4 rfl rfl (.bool false) (by kernel_rfl) fun a hE => ?_
      refine st_nil ?_
      refine n_then ?_
      refine wp_ret ?_
      obtain rfl := Option.some.inj hB1
      have hd := hD1 _ rfl
      subst hd
      obtain rfl := Option.some.inj hF
      refine r_then (r_in (r_then (r_then (r_in (r_then (r_then ?_))))))
      exact out (rs := [.tmp 4]) (vs := [.bool false]) rfl hE hS (.cons (.tmp rfl) .nil) ⟨rfl, hS.pick [] rfl rfl⟩
    have hB1 := if_f hB1 hb
    refine c_false hE rfl hb ?_
    refine wp_skip ?_
    refine n_then ?_
    refine wp_seq ?_
    refine r_list ?_
    refine st_pure hE rfl 82 rfl rfl (S s1.1) (by kernel_rfl) fun a hE => ?_
    refine st_pure hE rfl 83 rfl rfl (S y7.1) (by kernel_rfl) fun a hE => ?_
    obtain ⟨y11, h11, hB1⟩ := bind_some hB1
    refine st_run hE rfl 84 rfl rfl (S y11) (run_cat rfl (hE.eval rfl) (hE.eval rfl) h11) fun a hE => ?_
    refine st_pure hE rfl 9 rfl rfl (S y11) (by kernel_rfl) fun a hE => ?_
    refine st_nil ?_
    refine n_then ?_
    refine wp_seq ?_
    refine r_list ?_
    refine st_pure hE rfl 85 rfl rfl (.slice A1 y4.1.length c1) (by kernel_rfl) fun a hE => ?_
    refine st_pure hE rfl 86 rfl rfl (.int .i64 (y4.1.length : Int)) (by kernel_rfl) fun a hE => ?_
    refine st_pure hE rfl 87 rfl rfl (.int .i64 0) (by kernel_rfl) fun a hE => ?_
    refine st_nil ?_
    refine n_then ?_
    obtain ⟨o2, g2, hB1⟩ := bind_some hB1
    refine w_meet (fun a w => ∃ s2, o2 = .fall s2 ∧ Env 122 a [(0, .slice a0 x0.length k0), (1, .int .i64 x1), (5, S y3.1), (7, .slice A1 y4.1.length c1), (9, S y11), (10, .int .i64 s1.2)] ∧ Sep [] w0 w [.ro F0 (Rd F0 13 a0 x0.length k0 (x0.map api_Dir.enc)), .row 3 1 A1 y4.1.length c1 (y4.1.map (eI .i64))]) ?_ ?_
    · refine wp_block ?_
      refine loop_rule g2 (fun (s2 : Int) a w => Env 122 a [(0, .slice a0 x0.length k0), (1, .int .i64 x1), (5, S y3.1), (7, .slice A1 y4.1.length c1), (9, S y11), (10, .int .i64 s1.2), (11, S y7.1), (86, .int .i64 (y4.1.length : Int)), (87, .int .i64 s2)] ∧ Sep [] w0 w [.ro F0 (Rd F0 13 a0 x0.length k0 (x0.map api_Dir.enc)), .row 3 1 A1 y4.1.length c1 (y4.1.map (eI .i64))]) ?_ ?_
      · exact ⟨hE.sel ⟨rfl, rfl, rfl, rfl, rfl, rfl, rfl, rfl, rfl, trivial⟩, hS.pick [0, 1] rfl rfl⟩
      rintro s2 a w ⟨hE, hS⟩ st hB2 hD2
      unfold law11_DirreadJoins_L2 at hB2
      refine wp_seq ?_
      refine r_list ?_
      refine st_pure hE rfl 88 rfl rfl (.bool (decide (s2 < (y4.1.length : Int)))) (by kernel_rfl) fun a hE => ?_
      refine st_nil ?_
      refine n_then ?_
      refine wp_seq ?_
      rcases (Bool.eq_false_or_eq_true (decide (s2 < (y4.1.length : Int)))).symm with hb | hb
      · have hB2 := if_f hB2 hb
        refine c_false hE rfl hb ?_
        refine wp_exit ?_
        refine e_then (e_then (e_in ?_))
        obtain rfl := Option.some.inj hB2
        have hd := hD2 _ rfl
        subst hd
        refine n_then ?_
        exact ⟨_, rfl, hE.sel ⟨rfl, rfl, rfl, rfl, rfl, rfl, trivial⟩, hS.pick [0, 1] rfl rfl⟩
      have hB2 := if_t hB2 hb
      refine c_true hE rfl hb ?_
      refine wp_skip ?_
      refine n_then ?_
      refine wp_seq ?_
      refine wp_block ?_
      refine wp_seq ?_
      refine r_list ?_
      refine st_pure hE rfl 89 rfl rfl (.int .i64 s2) (by kernel_rfl) fun a hE => ?_
      refine st_pure hE rfl 13 rfl rfl (.int .i64 s2) (by kernel_rfl) fun a hE => ?_
      refine st_nil ?_
      refine n_then ?_
      refine wp_seq ?_
      refine r_list ?_
      refine st_pure hE rfl 90 rfl rfl (.slice A1 y4.1.length c1) (by kernel_rfl) fun a hE => ?_
      refine st_pure hE rfl 91 rfl rfl (.int .i64 s2) (by kernel_rfl) fun a hE => ?_
      obtain ⟨y12, h12, hB2⟩ := bind_some hB2
      refine go_at (e := 3) (c := 1) hE hS rfl 92 rfl rfl 1 rfl (by kernel_rfl) (by kernel_rfl) rfl rfl rfl .row rfl h12 fun a b2 p2 hA2 hE => ?_
      refine st_run hE rfl 93 rfl rfl (.int .i64 y12) (ld_elem (k := 1) (f := (eI .i64)) (j := 0) hE hS rfl rfl rfl .row hA2 h12 rfl (by kernel_rfl)) fun a hE => ?_
      refine st_pure hE rfl 94 rfl rfl (S y11) (by kernel_rfl) fun a hE => ?_
      refine st_pure hE rfl 95 rfl rfl (.int .i64 (y11.length : Int)) (by kernel_rfl) fun a hE => ?_
      refine st_pure hE rfl 96 rfl rfl (.bool (decide (y12 > (y11.length : Int)))) (by kernel_rfl) fun a hE => ?_
      refine st_pure hE rfl 97 rfl rfl (.bool (decide (y12 > (y11.length : Int)))) (by kernel_rfl) fun a hE => ?_
      refine st_cut 3 (fun a w => Env 122 a [(100, .bool ((decide (y12 > (y11.length : Int))) && (!(y7.1 == [])))), (0, .slice a0 x0.length k0), (1, .int .i64 x1), (5, S y3.1), (7, .slice A1 y4.1.length c1), (9, S y11), (10, .int .i64 s1.2), (11, S y7.1), (13, .int .i64 s2), (86, .int .i64 (y4.1.length : Int)), (87, .int .i64 s2)] ∧ Sep [] w0 w [.ro F0 (Rd F0 13 a0 x0.length k0 (x0.map api_Dir.enc)), .row 3 1 A1 y4.1.length c1 (y4.1.map (eI .i64))]) ?_ ?_
      · rcases Bool.eq_false_or_eq_true (decide (y12 > (y11.length : Int))) with hb | hb
        · have hE := hE.bool (t := 97) rfl hb
          refine st_pure hE rfl 98 rfl rfl (S y7.1) (by kernel_rfl) fun a hE => ?_
          refine st_run hE rfl 99 rfl rfl (.bool (!(y7.1 == []))) (run_str_neq rfl (hE.eval rfl) (hE.eval rfl)) fun a hE => ?_
          refine st_pure hE rfl 100 rfl rfl (.bool (!(y7.1 == []))) (by kernel_rfl) fun a hE => ?_
          have hE := hE.re (t := 100) rfl (congrArg Value.bool (and_t (e := (!(y7.1 == []))) hb))
          exact st_nil (n_then ⟨hE.sel ⟨rfl, rfl, rfl, rfl, rfl, rfl, rfl, rfl, rfl, rfl, rfl, trivial⟩, hS⟩)
        · have hE := hE.bool (t := 97) rfl hb
          refine st_not hE rfl 98 rfl rfl fun a hE => ?_
          refine st_not hE rfl 99 rfl rfl fun a hE => ?_
          refine st_pure hE rfl 100 rfl rfl (.bool false) (by kernel_rfl) fun a hE => ?_
          have hE := hE.re (t := 100) rfl (congrArg Value.bool (and_f (e := (!(y7.1 == []))) hb))
          exact st_nil (n_then ⟨hE.sel ⟨rfl, rfl, rfl, rfl, rfl, rfl, rfl, rfl, rfl, rfl, rfl, trivial⟩, hS⟩)
      rintro a w ⟨hE, hS⟩
      refine st_pure hE rfl 101 rfl rfl (.bool ((decide (y12 > (y11.length : Int))) && (!(y7.1 == [])))) (by kernel_rfl) fun a hE => ?_
      obtain ⟨y13, h13, hB2⟩ := bind_some hB2
      refine st_cut 13 (fun a w => Env 122 a [(114, .bool y13), (0, .slice a0 x0.length k0), (1, .int .i64 x1), (5, S y3.1), (7, .slice A1 y4.1.length c1), (9, S y11), (10, .int .i64 s1.2), (11, S y7.1), (86, .int .i64 (y4.1.length : Int)), (87, .int .i64 s2)] ∧ Sep [] w0 w [.ro F0 (Rd F0 13 a0 x0.length k0 (x0.map api_Dir.enc)), .row 3 1 A1 y4.1.length c1 (y4.1.map (eI .i64))]) ?_ ?_
      · rcases Bool.eq_false_or_eq_true ((decide (y12 > (y11.length : Int))) && (!(y7.1 == []))) with hb | hb
        · have hE := hE.bool (t := 101) rfl hb
          have h13 := if_t h13 hb
          refine st_pure hE rfl 102 rfl rfl (.slice A1 y4.1.length c1) (by kernel_rfl) fun a hE => ?_
          refine st_pure hE rfl 103 rfl rfl (.int .i64 s2) (by kernel_rfl) fun a hE => ?_
          obtain ⟨y14, h14, h13⟩ := bind_some h13
          refine go_at (e := 3) (c := 1) hE hS rfl 104 rfl rfl 1 rfl (by kernel_rfl) (by kernel_rfl) rfl rfl rfl .row rfl h14 fun a b3 p3 hA3 hE => ?_
          refine st_run hE rfl 105 rfl rfl (.int .i64 y14) (ld_elem (k := 1) (f := (eI .i64)) (j := 0) hE hS rfl rfl rfl .row hA3 h14 rfl (by kernel_rfl)) fun a hE => ?_
          refine st_pure hE rfl 106 rfl rfl (S y11) (by kernel_rfl) fun a hE => ?_
          refine st_pure hE rfl 107 rfl rfl (.int .i64 (y11.length : Int)) (by kernel_rfl) fun a hE => ?_
          refine st_pure hE rfl 108 rfl rfl (S y7.1) (by kernel_rfl) fun a hE => ?_
          refine st_pure hE rfl 109 rfl rfl (.int .i64 (y7.1.length : Int)) (by kernel_rfl) fun a hE => ?_
          refine st_pure hE rfl 110 rfl rfl (.int .i64 (w64 ((y11.length : Int) - (y7.1.length : Int)))) (by kernel_rfl) fun a hE => ?_
          refine st_pure hE rfl 111 rfl rfl (.int .i64 (w64 (y14 - (w64 ((y11.length : Int) - (y7.1.length : Int)))))) (by kernel_rfl) fun a hE => ?_
          refine st_pure hE rfl 112 rfl rfl (.int .i64 x1) (by kernel_rfl) fun a hE => ?_
          refine st_pure hE rfl 113 rfl rfl (.bool (decide ((w64 (y14 - (w64 ((y11.length : Int) - (y7.1.length : Int))))) ≤ x1))) (by kernel_rfl) fun a hE => ?_
          refine st_pure hE rfl 114 rfl rfl (.bool (decide ((w64 (y14 - (w64 ((y11.length : Int) - (y7.1.length : Int))))) ≤ x1))) (by kernel_rfl) fun a hE => ?_
          obtain rfl := Option.some.inj h13
          exact st_nil (n_then ⟨hE.sel ⟨rfl, rfl, rfl, rfl, rfl, rfl, rfl, rfl, rfl, rfl, trivial⟩, hS⟩)
        · have hE := hE.bool (t := 101) rfl hb
          have h13 := if_f h13 hb
          refine st_not hE rfl 102 rfl rfl fun a hE => ?_
          refine st_not hE rfl 103 rfl rfl fun a hE => ?_
          refine st_not hE rfl 104 rfl rfl fun a hE => ?_
          refine st_not hE rfl 105 rfl rfl fun a hE => ?_
          refine st_not hE rfl 106 rfl rfl fun a hE => ?_
          refine st_not hE rfl 107 rfl rfl fun a hE => ?_
          refine st_not hE rfl 108 rfl rfl fun a hE => ?_
          refine st_not hE rfl 109 rfl rfl fun a hE => ?_
          refine st_not hE rfl 110 rfl rfl fun a hE => ?_
          refine st_not hE rfl 111 rfl rfl fun a hE => ?_
          refine st_not hE rfl 112 rfl rfl fun a hE => ?_
          refine st_not hE rfl 113 rfl rfl fun a hE => ?_
          refine st_pure hE rfl 114 rfl rfl (.bool false) (by kernel_rfl) fun a hE => ?_
          obtain rfl := Option.some.inj h13
          exact st_nil (n_then ⟨hE.sel ⟨rfl, rfl, rfl, rfl, rfl, rfl, rfl, rfl, rfl, rfl, trivial⟩, hS⟩)
      rintro a w ⟨hE, hS⟩
      refine st_nil ?_
      refine n_then ?_
      rcases Bool.eq_false_or_eq_true y13 with hb | hb
      · have hB2 := if_t hB2 hb
        refine c_true hE rfl hb ?_
        refine wp_seq ?_
        refine r_list ?_
        refine st_pure hE rfl 4 rfl rfl (.bool false) (by kernel_rfl) fun a hE => ?_
        refine st_nil ?_
        refine n_then ?_
        refine wp_ret ?_
        obtain rfl := Option.some.inj hB2
        have hd := hD2 _ rfl
        subst hd
        obtain rfl := Option.some.inj hB1
        have hd := hD1 _ rfl
        subst hd
        obtain rfl := Option.some.inj hF
        refine r_in (r_then (r_then (r_in (r_then (r_in (r_then (r_then (r_in (r_then (r_then ?_))))))))))
        exact out (rs := [.tmp 4]) (vs := [.bool false]) rfl hE hS (.cons (.tmp rfl) .nil) ⟨rfl, hS.pick [] rfl rfl⟩
      have hB2 := if_f hB2 hb
      refine c_false hE rfl hb ?_
      refine wp_skip ?_
      refine n_in ?_
      refine n_then ?_
      refine r_list ?_
      refine st_pure hE rfl 115 rfl rfl (.int .i64 (w64 (s2 + 1))) (by kernel_rfl) fun a hE => ?_
      refine st_pure hE rfl 87 rfl rfl (.int .i64 (w64 (s2 + 1))) (by kernel_rfl) fun a hE => ?_
      refine st_nil ?_
      obtain rfl := Option.some.inj hB2
      refine n_then ?_
      exact ⟨_, rfl, hE.sel ⟨rfl, rfl, rfl, rfl, rfl, rfl, rfl, rfl, rfl, trivial⟩, hS.pick [0, 1] rfl rfl⟩
    rintro a w ⟨s2, rfl, hE, hS⟩
    replace hB1 := hB1
    refine n_in ?_
    refine n_then ?_
    refine r_list ?_
    refine st_pure hE rfl 44 rfl rfl (.int .i64 s1.2) (by kernel_rfl) fun a hE => ?_
    refine st_pure hE rfl 45 rfl rfl (.int .i64 (w64 (s1.2 + 1))) (by kernel_rfl) fun a hE => ?_
    refine st_pure hE rfl 10 rfl rfl (.int .i64 (w64 (s1.2 + 1))) (by kernel_rfl) fun a hE => ?_
    refine st_nil ?_
    obtain rfl := Option.some.inj hB1
    refine n_then ?_
    exact ⟨_, rfl, hE.sel ⟨rfl, rfl, rfl, rfl, rfl, rfl, trivial⟩, hS.pick [0, 1] rfl rfl⟩
  rintro a w ⟨s1, rfl, hE, hS⟩
  replace hF := hF
  refine n_then ?_
  refine wp_seq ?_
  refine r_list ?_
  refine st_pure hE rfl 116 rfl rfl (S s1) (by kernel_rfl) fun a hE => ?_
  refine st_pure hE rfl 117 rfl rfl (S y3.1) (by kernel_rfl) fun a hE => ?_
  refine st_run hE rfl 118 rfl rfl (.bool (s1 == y3.1)) (run_str_eql rfl (hE.eval rfl) (hE.eval rfl)) fun a hE => ?_
  refine st_pure hE rfl 119 rfl rfl (.bool (s1 == y3.1)) (by kernel_rfl) fun a hE => ?_
  obtain ⟨y15, h15, hF⟩ := bind_some hF
  refine st_cut 2 (fun a w => Env 122 a [(121, .bool y15)] ∧ Sep [] w0 w []) ?_ ?_
  · rcases Bool.eq_false_or_eq_true (s1 == y3.1) with hb | hb
    · have hE := hE.bool (t := 119) rfl hb
      have h15 := if_t h15 hb
      obtain ⟨y16, h16, h15⟩ := bind_some h15
      refine go_call hE rfl 120 rfl rfl 18 _ (by kernel_rfl) (W_law11_awake  _ h16 _ ) fun a v w hR hE => ?_
      obtain ⟨rfl, hq⟩ := hR
      have hS := hS.call hq rfl
      refine st_pure hE rfl 121 rfl rfl (.bool y16) (by kernel_rfl) fun a hE => ?_
      obtain rfl := Option.some.inj h15
      exact st_nil (n_then ⟨hE.sel ⟨rfl, trivial⟩, hS⟩)
    · have hE := hE.bool (t := 119) rfl hb
      have h15 := if_f h15 hb
      refine st_not hE rfl 120 rfl rfl fun a hE => ?_
      refine st_pure hE rfl 121 rfl rfl (.bool false) (by kernel_rfl) fun a hE => ?_
      obtain rfl := Option.some.inj h15
      exact st_nil (n_then ⟨hE.sel ⟨rfl, trivial⟩, hS⟩)
  rintro a w ⟨hE, hS⟩
  refine st_pure hE rfl 4 rfl rfl (.bool y15) (by kernel_rfl) fun a hE => ?_
  refine st_nil ?_
  refine n_then ?_
  refine wp_ret ?_
  obtain rfl := Option.some.inj hF
  exact out (rs := [.tmp 4]) (vs := [.bool y15]) rfl hE hS (.cons (.tmp rfl) .nil) ⟨rfl, hS.pick [] rfl rfl⟩
end Go.Proofs.Ytglcohgjcjaamaa
