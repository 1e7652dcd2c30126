/-
  The walks: each Go function computes what its namesake on plain data says: printed by a program of ours (gosh.py) off the translation.
-/
import Derived.Test.YtglcohgjcjaamaaW4
namespace Go.Proofs.Ytglcohgjcjaamaa
open Go.Rt Go.RowKit

/-- filespace/filespaceref07.Get -/
theorem W_ref07_Get (x0 : Str) (x1 : Int) (r : api_Dir × Int × Int) (hF : ref07_Get x0 x1 = some r) (w0 : World)  : Ret Try.prog 34 #[S x0, .int .i64 x1] w0 fun v w => v = .tuple #[.agg (api_Dir.enc r.1).toArray, .int .i64 r.2.1, .int .i64 r.2.2] ∧ Sep [] w0 w [] := by
  refine enter Try.func34 rfl rfl rfl fun a hE => ?_
  have hS := Sep.start [] w0
  unfold ref07_Get at hF
  refine wp_seq ?_
  refine r_list ?_
  refine go_box hE hS rfl 4 rfl rfl 27 (api_Dir.enc (api_Dir.mk 0 0 (api_Qid.mk 0 0 0) 0 0 0 0 [] [] [] [])) (fun _ => by kernel_rfl) fun a w b1 hx hE hS => ?_
  refine st_pure hE rfl 5 rfl rfl (.int .i64 0) (by kernel_rfl) fun a hE => ?_
  refine st_pure hE rfl 6 rfl rfl (.int .i64 0) (by kernel_rfl) fun a hE => ?_
  refine st_nil ?_
  refine n_then ?_
  refine wp_seq ?_
  refine wp_seq ?_
  refine r_list ?_
  refine st_pure hE rfl 14 rfl rfl (.int .i64 x1) (by kernel_rfl) fun a hE => ?_
  refine st_pure hE rfl 15 rfl rfl (.bool (decide (x1 < 0))) (by kernel_rfl) fun a hE => ?_
  refine st_pure hE rfl 16 rfl rfl (.bool (decide (x1 < 0))) (by kernel_rfl) fun a hE => ?_
  refine st_cut 5 (fun a w => Env 108 a [(21, .bool ((decide (x1 < 0)) || (decide (x1 > (x0.length : Int))))), (0, S x0), (1, .int .i64 x1), (4, .pointer (some ⟨b1, 0, none⟩))] ∧ Sep [] w0 w [.box b1 27 (api_Dir.enc (api_Dir.mk 0 0 (api_Qid.mk 0 0 0) 0 0 0 0 [] [] [] []))]) ?_ ?_
  · rcases Bool.eq_false_or_eq_true (decide (x1 < 0)) with hb | hb
    · have hE := hE.bool (t := 16) rfl hb
      refine st_not hE rfl 17 rfl rfl fun a hE => ?_
      refine st_not hE rfl 18 rfl rfl fun a hE => ?_
      refine st_not hE rfl 19 rfl rfl fun a hE => ?_
      refine st_not hE rfl 20 rfl rfl fun a hE => ?_
      refine st_pure hE rfl 21 rfl rfl (.bool true) (by kernel_rfl) fun a hE => ?_
      have hE := hE.re (t := 21) rfl (congrArg Value.bool (or_t (e := (decide (x1 > (x0.length : Int)))) hb))
      exact st_nil (n_then ⟨hE.sel ⟨rfl, rfl, rfl, rfl, trivial⟩, hS⟩)
    · have hE := hE.bool (t := 16) rfl hb
      refine st_pure hE rfl 17 rfl rfl (.int .i64 x1) (by kernel_rfl) fun a hE => ?_
      refine st_pure hE rfl 18 rfl rfl (S x0) (by kernel_rfl) fun a hE => ?_
      refine st_pure hE rfl 19 rfl rfl (.int .i64 (x0.length : Int)) (by kernel_rfl) fun a hE => ?_
      refine st_pure hE rfl 20 rfl rfl (.bool (decide (x1 > (x0.length : Int)))) (by kernel_rfl) fun a hE => ?_
      refine st_pure hE rfl 21 rfl rfl (.bool (decide (x1 > (x0.length : Int)))) (by kernel_rfl) fun a hE => ?_
      have hE := hE.re (t := 21) rfl (congrArg Value.bool (or_f (e := (decide (x1 > (x0.length : Int)))) hb))
      exact st_nil (n_then ⟨hE.sel ⟨rfl, rfl, rfl, rfl, trivial⟩, hS⟩)
  rintro a w ⟨hE, hS⟩
  refine st_nil ?_
  refine n_then ?_
  rcases Bool.eq_false_or_eq_true ((decide (x1 < 0)) || (decide (x1 > (x0.length : Int)))) with hb | hb
  · have hF := if_t hF hb
    refine c_true hE rfl hb ?_
    refine wp_seq ?_
    refine r_list ?_
    refine st_pure hE rfl 22 rfl rfl (.agg (api_Dir.enc (api_Dir.mk 0 0 (api_Qid.mk 0 0 0) 0 0 0 0 [] [] [] [])).toArray) (by kernel_rfl) fun a hE => ?_
    refine go_set (L' := [.box b1 27 (api_Dir.enc (api_Dir.mk 0 0 (api_Qid.mk 0 0 0) 0 0 0 0 [] [] [] []))]) hE hS rfl rfl 0 rfl rfl rfl rfl (by kernel_rfl) (by kernel_rfl) (by kernel_rfl) (api_Dir.enc (api_Dir.mk 0 0 (api_Qid.mk 0 0 0) 0 0 0 0 [] [] [] [])) (by kernel_rfl) rfl fun w hS => ?_
    refine st_pure hE rfl 5 rfl rfl (.int .i64 0) (by kernel_rfl) fun a hE => ?_
    refine st_pure hE rfl 6 rfl rfl (.int .i64 1) (by kernel_rfl) fun a hE => ?_
    refine st_nil ?_
    refine n_then ?_
    refine wp_ret ?_
    obtain rfl := Option.some.inj hF
    refine r_then ?_
    exact out (rs := [.cell 4 27, .tmp 5, .tmp 6]) (vs := [.agg (api_Dir.enc (api_Dir.mk 0 0 (api_Qid.mk 0 0 0) 0 0 0 0 [] [] [] [])).toArray, .int .i64 0, .int .i64 1]) rfl hE hS (.cons (.cell (i := 0) rfl rfl (by kernel_rfl)) (.cons (.tmp rfl) (.cons (.tmp rfl) .nil))) ⟨rfl, hS.pick [] rfl rfl⟩
  have hF := if_f hF hb
  refine c_false hE rfl hb ?_
  refine wp_skip ?_
  refine n_then ?_
  refine wp_seq ?_
  refine wp_seq ?_
  refine r_list ?_
  refine st_pure hE rfl 23 rfl rfl (S x0) (by kernel_rfl) fun a hE => ?_
  refine st_pure hE rfl 24 rfl rfl (.int .i64 (x0.length : Int)) (by kernel_rfl) fun a hE => ?_
  refine st_pure hE rfl 25 rfl rfl (.int .i64 x1) (by kernel_rfl) fun a hE => ?_
  refine st_pure hE rfl 26 rfl rfl (.int .i64 (w64 ((x0.length : Int) - x1))) (by kernel_rfl) fun a hE => ?_
  refine st_pure hE rfl 27 rfl rfl (.bool (decide ((w64 ((x0.length : Int) - x1)) < 2))) (by kernel_rfl) fun a hE => ?_
  refine st_nil ?_
  refine n_then ?_
  rcases Bool.eq_false_or_eq_true (decide ((w64 ((x0.length : Int) - x1)) < 2)) with hb | hb
  · have hF := if_t hF hb
    refine c_true hE rfl hb ?_
    refine wp_seq ?_
    refine r_list ?_
    refine st_pure hE rfl 28 rfl rfl (.agg (api_Dir.enc (api_Dir.mk 0 0 (api_Qid.mk 0 0 0) 0 0 0 0 [] [] [] [])).toArray) (by kernel_rfl) fun a hE => ?_
    refine go_set (L' := [.box b1 27 (api_Dir.enc (api_Dir.mk 0 0 (api_Qid.mk 0 0 0) 0 0 0 0 [] [] [] []))]) hE hS rfl rfl 0 rfl rfl rfl rfl (by kernel_rfl) (by kernel_rfl) (by kernel_rfl) (api_Dir.enc (api_Dir.mk 0 0 (api_Qid.mk 0 0 0) 0 0 0 0 [] [] [] [])) (by kernel_rfl) rfl fun w hS => ?_
    refine st_pure hE rfl 5 rfl rfl (.int .i64 0) (by kernel_rfl) fun a hE => ?_
    refine st_pure hE rfl 6 rfl rfl (.int .i64 3) (by kernel_rfl) fun a hE => ?_
    refine st_nil ?_
    refine n_then ?_
    refine wp_ret ?_
    obtain rfl := Option.some.inj hF
    refine r_then ?_
    exact out (rs := [.cell 4 27, .tmp 5, .tmp 6]) (vs := [.agg (api_Dir.enc (api_Dir.mk 0 0 (api_Qid.mk 0 0 0) 0 0 0 0 [] [] [] [])).toArray, .int .i64 0, .int .i64 3]) rfl hE hS (.cons (.cell (i := 0) rfl rfl (by kernel_rfl)) (.cons (.tmp rfl) (.cons (.tmp rfl) .nil))) ⟨rfl, hS.pick [] rfl rfl⟩
  have hF := if_f hF hb
  refine c_false hE rfl hb ?_
  refine wp_skip ?_
  refine n_then ?_
  refine wp_seq ?_
  refine r_mix [] [(0, false), (1, false), (2, false), (3, false), (4, false), (5, false), (6, false), (7, false), (8, false), (9, false), (10, false), (11, false)] rfl (by kernel_rfl) ?_
  have hW := hS
  have hX := hS.now
  refine mx_pure hE rfl rfl 29 rfl rfl (S x0) (by kernel_rfl) fun a hE => ?_
  refine mx_pure hE rfl rfl 30 rfl rfl (.int .i64 x1) (by kernel_rfl) fun a hE => ?_
  obtain ⟨y1, h1, hF⟩ := bind_some hF
  refine mx_run hE rfl rfl 31 rfl rfl (.int .u8 y1) (fun w hx => run_byteI rfl (by kernel_rfl) (hE.eval rfl) (hE.eval rfl) h1) fun a hE => ?_
  refine mx_pure hE rfl rfl 32 rfl rfl (.int .i64 (IntKind.i64.wrap y1)) (by kernel_rfl) fun a hE => ?_
  refine mx_pure hE rfl rfl 33 rfl rfl (S x0) (by kernel_rfl) fun a hE => ?_
  refine mx_pure hE rfl rfl 34 rfl rfl (.int .i64 x1) (by kernel_rfl) fun a hE => ?_
  refine mx_pure hE rfl rfl 35 rfl rfl (.int .i64 (w64 (x1 + 1))) (by kernel_rfl) fun a hE => ?_
  obtain ⟨y2, h2, hF⟩ := bind_some hF
  refine mx_run hE rfl rfl 36 rfl rfl (.int .u8 y2) (fun w hx => run_byteI rfl (by kernel_rfl) (hE.eval rfl) (hE.eval rfl) h2) fun a hE => ?_
  refine mx_pure hE rfl rfl 37 rfl rfl (.int .i64 (IntKind.i64.wrap y2)) (by kernel_rfl) fun a hE => ?_
  refine mx_pure hE rfl rfl 38 rfl rfl (.int .i64 (w64 (256 * (IntKind.i64.wrap y2)))) (by kernel_rfl) fun a hE => ?_
  refine mx_pure hE rfl rfl 39 rfl rfl (.int .i64 (w64 ((IntKind.i64.wrap y1) + (w64 (256 * (IntKind.i64.wrap y2)))))) (by kernel_rfl) fun a hE => ?_
  refine mx_pure hE rfl rfl 7 rfl rfl (.int .i64 (w64 ((IntKind.i64.wrap y1) + (w64 (256 * (IntKind.i64.wrap y2)))))) (by kernel_rfl) fun a hE => ?_
  refine mx_nil fun w hx => ?_
  have hS := hS.ext hx
  refine n_then ?_
  refine wp_seq ?_
  refine wp_seq ?_
  refine r_list ?_
  refine st_pure hE rfl 40 rfl rfl (S x0) (by kernel_rfl) fun a hE => ?_
  refine st_pure hE rfl 41 rfl rfl (.int .i64 (x0.length : Int)) (by kernel_rfl) fun a hE => ?_
  refine st_pure hE rfl 42 rfl rfl (.int .i64 x1) (by kernel_rfl) fun a hE => ?_
  refine st_pure hE rfl 43 rfl rfl (.int .i64 (w64 ((x0.length : Int) - x1))) (by kernel_rfl) fun a hE => ?_
  refine st_pure hE rfl 44 rfl rfl (.int .i64 (w64 ((w64 ((x0.length : Int) - x1)) - 2))) (by kernel_rfl) fun a hE => ?_
  refine st_pure hE rfl 45 rfl rfl (.int .i64 (w64 ((IntKind.i64.wrap y1) + (w64 (256 * (IntKind.i64.wrap y2)))))) (by kernel_rfl) fun a hE => ?_
  refine st_pure hE rfl 46 rfl rfl (.bool (decide ((w64 ((w64 ((x0.length : Int) - x1)) - 2)) < (w64 ((IntKind.i64.wrap y1) + (w64 (256 * (IntKind.i64.wrap y2)))))))) (by kernel_rfl) fun a hE => ?_
  refine st_nil ?_
  refine n_then ?_
  rcases Bool.eq_false_or_eq_true (decide ((w64 ((w64 ((x0.length : Int) - x1)) - 2)) < (w64 ((IntKind.i64.wrap y1) + (w64 (256 * (IntKind.i64.wrap y2))))))) with hb | hb
  · have hF := if_t hF hb
    refine c_true hE rfl hb ?_
    refine wp_seq ?_
    refine r_list ?_
    refine st_pure hE rfl 47 rfl rfl (.agg (api_Dir.enc (api_Dir.mk 0 0 (api_Qid.mk 0 0 0) 0 0 0 0 [] [] [] [])).toArray) (by kernel_rfl) fun a hE => ?_
    refine go_set (L' := [.box b1 27 (api_Dir.enc (api_Dir.mk 0 0 (api_Qid.mk 0 0 0) 0 0 0 0 [] [] [] []))]) hE hS rfl rfl 0 rfl rfl rfl rfl (by kernel_rfl) (by kernel_rfl) (by kernel_rfl) (api_Dir.enc (api_Dir.mk 0 0 (api_Qid.mk 0 0 0) 0 0 0 0 [] [] [] [])) (by kernel_rfl) rfl fun w hS => ?_
    refine st_pure hE rfl 5 rfl rfl (.int .i64 0) (by kernel_rfl) fun a hE => ?_
    refine st_pure hE rfl 6 rfl rfl (.int .i64 3) (by kernel_rfl) fun a hE => ?_
    refine st_nil ?_
    refine n_then ?_
    refine wp_ret ?_
    obtain rfl := Option.some.inj hF
    refine r_then ?_
    exact out (rs := [.cell 4 27, .tmp 5, .tmp 6]) (vs := [.agg (api_Dir.enc (api_Dir.mk 0 0 (api_Qid.mk 0 0 0) 0 0 0 0 [] [] [] [])).toArray, .int .i64 0, .int .i64 3]) rfl hE hS (.cons (.cell (i := 0) rfl rfl (by kernel_rfl)) (.cons (.tmp rfl) (.cons (.tmp rfl) .nil))) ⟨rfl, hS.pick [] rfl rfl⟩
  have hF := if_f hF hb
  refine c_false hE rfl hb ?_
  refine wp_skip ?_
  refine n_then ?_
  refine wp_seq ?_
  refine r_list ?_
  refine st_pure hE rfl 48 rfl rfl (S x0) (by kernel_rfl) fun a hE => ?_
  refine st_pure hE rfl 49 rfl rfl (.int .i64 x1) (by kernel_rfl) fun a hE => ?_
  refine st_pure hE rfl 50 rfl rfl (.int .i64 (w64 (x1 + 2))) (by kernel_rfl) fun a hE => ?_
  refine st_pure hE rfl 51 rfl rfl (.int .i64 x1) (by kernel_rfl) fun a hE => ?_
  refine st_pure hE rfl 52 rfl rfl (.int .i64 (w64 (x1 + 2))) (by kernel_rfl) fun a hE => ?_
  refine st_pure hE rfl 53 rfl rfl (.int .i64 (w64 ((IntKind.i64.wrap y1) + (w64 (256 * (IntKind.i64.wrap y2)))))) (by kernel_rfl) fun a hE => ?_
  refine st_pure hE rfl 54 rfl rfl (.int .i64 (w64 ((w64 (x1 + 2)) + (w64 ((IntKind.i64.wrap y1) + (w64 (256 * (IntKind.i64.wrap y2)))))))) (by kernel_rfl) fun a hE => ?_
  obtain ⟨y3, h3, hF⟩ := bind_some hF
  refine st_run hE rfl 55 rfl rfl (S y3) (run_str_sub (l := (some (w64 (x1 + 2)))) (h := (some (w64 ((w64 (x1 + 2)) + (w64 ((IntKind.i64.wrap y1) + (w64 (256 * (IntKind.i64.wrap y2))))))))) rfl (by kernel_rfl) (hE.eval rfl) (bnd_some (hE.eval rfl)) (bnd_some (hE.eval rfl)) h3) fun a hE => ?_
  refine st_pure hE rfl 8 rfl rfl (S y3) (by kernel_rfl) fun a hE => ?_
  refine st_nil ?_
  refine n_then ?_
  refine wp_seq ?_
  refine wp_seq ?_
  refine r_list ?_
  refine st_pure hE rfl 56 rfl rfl (.int .i64 (w64 ((IntKind.i64.wrap y1) + (w64 (256 * (IntKind.i64.wrap y2)))))) (by kernel_rfl) fun a hE => ?_
  refine st_pure hE rfl 57 rfl rfl (.bool (decide ((w64 ((IntKind.i64.wrap y1) + (w64 (256 * (IntKind.i64.wrap y2))))) < 47))) (by kernel_rfl) fun a hE => ?_
  refine st_nil ?_
  refine n_then ?_
  rcases Bool.eq_false_or_eq_true (decide ((w64 ((IntKind.i64.wrap y1) + (w64 (256 * (IntKind.i64.wrap y2))))) < 47)) with hb | hb
  · have hF := if_t hF hb
    refine c_true hE rfl hb ?_
    refine wp_seq ?_
    refine r_list ?_
    refine st_pure hE rfl 58 rfl rfl (.agg (api_Dir.enc (api_Dir.mk 0 0 (api_Qid.mk 0 0 0) 0 0 0 0 [] [] [] [])).toArray) (by kernel_rfl) fun a hE => ?_
    refine go_set (L' := [.box b1 27 (api_Dir.enc (api_Dir.mk 0 0 (api_Qid.mk 0 0 0) 0 0 0 0 [] [] [] []))]) hE hS rfl rfl 0 rfl rfl rfl rfl (by kernel_rfl) (by kernel_rfl) (by kernel_rfl) (api_Dir.enc (api_Dir.mk 0 0 (api_Qid.mk 0 0 0) 0 0 0 0 [] [] [] [])) (by kernel_rfl) rfl fun w hS => ?_
    refine st_pure hE rfl 5 rfl rfl (.int .i64 0) (by kernel_rfl) fun a hE => ?_
    refine st_pure hE rfl 6 rfl rfl (.int .i64 2) (by kernel_rfl) fun a hE => ?_
    refine st_nil ?_
    refine n_then ?_
    refine wp_ret ?_
    obtain rfl := Option.some.inj hF
    refine r_then ?_
    exact out (rs := [.cell 4 27, .tmp 5, .tmp 6]) (vs := [.agg (api_Dir.enc (api_Dir.mk 0 0 (api_Qid.mk 0 0 0) 0 0 0 0 [] [] [] [])).toArray, .int .i64 0, .int .i64 2]) rfl hE hS (.cons (.cell (i := 0) rfl rfl (by kernel_rfl)) (.cons (.tmp rfl) (.cons (.tmp rfl) .nil))) ⟨rfl, hS.pick [] rfl rfl⟩
  have hF := if_f hF hb
  refine c_false hE rfl hb ?_
  refine wp_skip ?_
  refine n_then ?_
  refine wp_seq ?_
  refine r_list ?_
  refine st_pure hE rfl 60 rfl rfl (S y3) (by kernel_rfl) fun a hE => ?_
  obtain ⟨y4, h4, hF⟩ := bind_some hF
  refine st_run hE rfl 61 rfl rfl (S y4) (run_str_sub (l := (some 47)) (h := none) rfl (by kernel_rfl) (hE.eval rfl) (bnd_some (hE.eval rfl)) bnd_none h4) fun a hE => ?_
  obtain ⟨y5, h5, hF⟩ := bind_some hF
  refine go_call hE rfl 62 rfl rfl 61 _ (by kernel_rfl) (W_ref07_texts y4 _ h5 _ ) fun a v w hR hE => ?_
  obtain ⟨rfl, hq⟩ := hR
  have hS := hS.call hq rfl
  refine st_pure hE rfl 59 rfl rfl (.tuple #[.agg (Arr4_string.enc y5.1).toArray, .bool y5.2]) (by kernel_rfl) fun a hE => ?_
  refine st_pure hE rfl 63 rfl rfl (.agg (Arr4_string.enc y5.1).toArray) (by kernel_rfl) fun a hE => ?_
  refine st_pure hE rfl 64 rfl rfl (.bool y5.2) (by kernel_rfl) fun a hE => ?_
  refine go_box hE hS rfl 9 rfl rfl 78 (Arr4_string.enc (Arr4_string.mk [] [] [] [])) (fun _ => by kernel_rfl) fun a w b2 hx hE hS => ?_
  refine go_set (L' := [.box b2 78 (Arr4_string.enc y5.1), .box b1 27 (api_Dir.enc (api_Dir.mk 0 0 (api_Qid.mk 0 0 0) 0 0 0 0 [] [] [] []))]) hE hS rfl rfl 0 rfl rfl rfl rfl (by kernel_rfl) (by kernel_rfl) (by kernel_rfl) (Arr4_string.enc y5.1) (by kernel_rfl) rfl fun w hS => ?_
  refine st_pure hE rfl 10 rfl rfl (.bool y5.2) (by kernel_rfl) fun a hE => ?_
  refine st_nil ?_
  refine n_then ?_
  refine wp_seq ?_
  refine wp_seq ?_
  refine r_list ?_
  refine st_pure hE rfl 65 rfl rfl (.bool y5.2) (by kernel_rfl) fun a hE => ?_
  refine st_pure hE rfl 66 rfl rfl (.bool (!y5.2)) (by kernel_rfl) fun a hE => ?_
  refine st_nil ?_
  refine n_then ?_
  rcases Bool.eq_false_or_eq_true (!y5.2) with hb | hb
  · have hF := if_t hF hb
    refine c_true hE rfl hb ?_
    refine wp_seq ?_
    refine r_list ?_
    refine st_pure hE rfl 67 rfl rfl (.agg (api_Dir.enc (api_Dir.mk 0 0 (api_Qid.mk 0 0 0) 0 0 0 0 [] [] [] [])).toArray) (by kernel_rfl) fun a hE => ?_
    refine go_set (L' := [.box b2 78 (Arr4_string.enc y5.1), .box b1 27 (api_Dir.enc (api_Dir.mk 0 0 (api_Qid.mk 0 0 0) 0 0 0 0 [] [] [] []))]) hE hS rfl rfl 1 rfl rfl rfl rfl (by kernel_rfl) (by kernel_rfl) (by kernel_rfl) (api_Dir.enc (api_Dir.mk 0 0 (api_Qid.mk 0 0 0) 0 0 0 0 [] [] [] [])) (by kernel_rfl) rfl fun w hS => ?_
    refine st_pure hE rfl 5 rfl rfl (.int .i64 0) (by kernel_rfl) fun a hE => ?_
    refine st_pure hE rfl 6 rfl rfl (.int .i64 2) (by kernel_rfl) fun a hE => ?_
    refine st_nil ?_
    refine n_then ?_
    refine wp_ret ?_
    obtain rfl := Option.some.inj hF
    refine r_then ?_
    exact out (rs := [.cell 4 27, .tmp 5, .tmp 6]) (vs := [.agg (api_Dir.enc (api_Dir.mk 0 0 (api_Qid.mk 0 0 0) 0 0 0 0 [] [] [] [])).toArray, .int .i64 0, .int .i64 2]) rfl hE hS (.cons (.cell (i := 1) rfl rfl (by kernel_rfl)) (.cons (.tmp rfl) (.cons (.tmp rfl) .nil))) ⟨rfl, hS.pick [] rfl rfl⟩
  have hF := if_f hF hb
  refine c_false hE rfl hb ?_
  refine wp_skip ?_
  refine n_then ?_
  refine wp_seq ?_
  refine r_list ?_
  refine st_pure hE rfl 68 rfl rfl (S y3) (by kernel_rfl) fun a hE => ?_
  obtain ⟨y6, h6, hF⟩ := bind_some hF
  refine go_call hE rfl 69 rfl rfl 62 _ (by kernel_rfl) (W_ref07_number y3 6 1 _ h6 _ ) fun a v w hR hE => ?_
  obtain ⟨rfl, hq⟩ := hR
  have hS := hS.call hq rfl
  refine st_pure hE rfl 70 rfl rfl (S y3) (by kernel_rfl) fun a hE => ?_
  obtain ⟨y7, h7, hF⟩ := bind_some hF
  refine go_call hE rfl 71 rfl rfl 62 _ (by kernel_rfl) (W_ref07_number y3 7 4 _ h7 _ ) fun a v w hR hE => ?_
  obtain ⟨rfl, hq⟩ := hR
  have hS := hS.call hq rfl
  refine st_pure hE rfl 72 rfl rfl (S y3) (by kernel_rfl) fun a hE => ?_
  obtain ⟨y8, h8, hF⟩ := bind_some hF
  refine go_call hE rfl 73 rfl rfl 62 _ (by kernel_rfl) (W_ref07_number y3 11 8 _ h8 _ ) fun a v w hR hE => ?_
  obtain ⟨rfl, hq⟩ := hR
  have hS := hS.call hq rfl
  refine st_pure hE rfl 74 rfl rfl (.agg (api_Qid.enc (api_Qid.mk y6 y7 y8)).toArray) (by kernel_rfl) fun a hE => ?_
  refine go_box hE hS rfl 11 rfl rfl 25 (api_Qid.enc (api_Qid.mk 0 0 0)) (fun _ => by kernel_rfl) fun a w b3 hx hE hS => ?_
  refine go_set (L' := [.box b3 25 (api_Qid.enc (api_Qid.mk y6 y7 y8)), .box b2 78 (Arr4_string.enc y5.1), .box b1 27 (api_Dir.enc (api_Dir.mk 0 0 (api_Qid.mk 0 0 0) 0 0 0 0 [] [] [] []))]) hE hS rfl rfl 0 rfl rfl rfl rfl (by kernel_rfl) (by kernel_rfl) (by kernel_rfl) (api_Qid.enc (api_Qid.mk y6 y7 y8)) (by kernel_rfl) rfl fun w hS => ?_
  refine st_nil ?_
  refine n_then ?_
  refine wp_seq ?_
  refine r_mix [23] [(0, false), (1, false), (2, false), (3, false), (4, false), (5, false), (6, false), (7, false), (8, false), (9, false), (10, false), (11, false), (12, false), (13, false), (14, false), (15, false), (16, false), (17, false), (18, false), (19, false), (20, false), (21, false), (22, true), (23, true)] rfl (by kernel_rfl) ?_
  have hW := hS
  have hX := hS.now
  refine mx_pure hE rfl rfl 75 rfl rfl (S y3) (by kernel_rfl) fun a hE => ?_
  obtain ⟨y9, h9, hF⟩ := bind_some hF
  refine mx_call hE rfl rfl 76 rfl rfl 62 _ (by kernel_rfl) (.int .i64 y9) (fun w hx => (W_ref07_number y3 0 2 _ h9 _ ).mono fun u w ⟨hu, hq⟩ => ⟨hu, Ext.of_sep hq⟩) fun a hE => ?_
  refine mx_pure hE rfl rfl 77 rfl rfl (S y3) (by kernel_rfl) fun a hE => ?_
  obtain ⟨y10, h10, hF⟩ := bind_some hF
  refine mx_call hE rfl rfl 78 rfl rfl 62 _ (by kernel_rfl) (.int .i64 y10) (fun w hx => (W_ref07_number y3 2 4 _ h10 _ ).mono fun u w ⟨hu, hq⟩ => ⟨hu, Ext.of_sep hq⟩) fun a hE => ?_
  refine mx_run hE rfl rfl 79 rfl rfl (.agg (api_Qid.enc (api_Qid.mk y6 y7 y8)).toArray) (fun w hx => ld_box hE (hW.ext hx) 0 rfl rfl rfl (by kernel_rfl)) fun a hE => ?_
  refine mx_pure hE rfl rfl 80 rfl rfl (S y3) (by kernel_rfl) fun a hE => ?_
  obtain ⟨y11, h11, hF⟩ := bind_some hF
  refine mx_call hE rfl rfl 81 rfl rfl 62 _ (by kernel_rfl) (.int .i64 y11) (fun w hx => (W_ref07_number y3 19 4 _ h11 _ ).mono fun u w ⟨hu, hq⟩ => ⟨hu, Ext.of_sep hq⟩) fun a hE => ?_
  refine mx_pure hE rfl rfl 82 rfl rfl (S y3) (by kernel_rfl) fun a hE => ?_
  obtain ⟨y12, h12, hF⟩ := bind_some hF
  refine mx_call hE rfl rfl 83 rfl rfl 62 _ (by kernel_rfl) (.int .i64 y12) (fun w hx => (W_ref07_number y3 23 8 _ h12 _ ).mono fun u w ⟨hu, hq⟩ => ⟨hu, Ext.of_sep hq⟩) fun a hE => ?_
  refine mx_pure hE rfl rfl 84 rfl rfl (S y3) (by kernel_rfl) fun a hE => ?_
  obtain ⟨y13, h13, hF⟩ := bind_some hF
  refine mx_call hE rfl rfl 85 rfl rfl 62 _ (by kernel_rfl) (.int .i64 y13) (fun w hx => (W_ref07_number y3 31 8 _ h13 _ ).mono fun u w ⟨hu, hq⟩ => ⟨hu, Ext.of_sep hq⟩) fun a hE => ?_
  refine mx_pure hE rfl rfl 86 rfl rfl (S y3) (by kernel_rfl) fun a hE => ?_
  obtain ⟨y14, h14, hF⟩ := bind_some hF
  refine mx_call hE rfl rfl 87 rfl rfl 62 _ (by kernel_rfl) (.int .i64 y14) (fun w hx => (W_ref07_number y3 39 8 _ h14 _ ).mono fun u w ⟨hu, hq⟩ => ⟨hu, Ext.of_sep hq⟩) fun a hE => ?_
  refine mx_pure hE rfl rfl 88 rfl rfl (.pointer (some ⟨b2, 0, none⟩)) (by kernel_rfl) fun a hE => ?_
  refine mx_run hE rfl rfl 89 rfl rfl (S y5.1.a0_) (fun w hx => ld_box hE (hW.ext hx) 1 rfl rfl rfl (by kernel_rfl)) fun a hE => ?_
  refine mx_pure hE rfl rfl 90 rfl rfl (.pointer (some ⟨b2, 1, none⟩)) (by kernel_rfl) fun a hE => ?_
  refine mx_run hE rfl rfl 91 rfl rfl (S y5.1.a1_) (fun w hx => ld_box hE (hW.ext hx) 1 rfl rfl rfl (by kernel_rfl)) fun a hE => ?_
  refine mx_pure hE rfl rfl 92 rfl rfl (.pointer (some ⟨b2, 2, none⟩)) (by kernel_rfl) fun a hE => ?_
  refine mx_run hE rfl rfl 93 rfl rfl (S y5.1.a2_) (fun w hx => ld_box hE (hW.ext hx) 1 rfl rfl rfl (by kernel_rfl)) fun a hE => ?_
  refine mx_pure hE rfl rfl 94 rfl rfl (.pointer (some ⟨b2, 3, none⟩)) (by kernel_rfl) fun a hE => ?_
  refine mx_run hE rfl rfl 95 rfl rfl (S y5.1.a3_) (fun w hx => ld_box hE (hW.ext hx) 1 rfl rfl rfl (by kernel_rfl)) fun a hE => ?_
  refine mx_pure hE rfl rfl 96 rfl rfl (.agg (api_Dir.enc (api_Dir.mk y9 y10 (api_Qid.mk y6 y7 y8) y11 y12 y13 y14 y5.1.a0_ y5.1.a1_ y5.1.a2_ y5.1.a3_)).toArray) (by kernel_rfl) fun a hE => ?_
  refine mx_loud rfl fun w hx => ?_
  have hS := hS.ext hx
  have hX := hX.trans hx
  refine go_box hE hS rfl 12 rfl rfl 27 (api_Dir.enc (api_Dir.mk 0 0 (api_Qid.mk 0 0 0) 0 0 0 0 [] [] [] [])) (fun _ => by kernel_rfl) fun a w b4 hx hE hS => ?_
  have hX := hX.trans hx
  refine st_nil (n_then ⟨fun _ => hX, ?_⟩)
  refine mx_loud rfl fun w hx => ?_
  have hS := hS.ext hx
  refine go_set (L' := [.box b4 27 (api_Dir.enc (api_Dir.mk y9 y10 (api_Qid.mk y6 y7 y8) y11 y12 y13 y14 y5.1.a0_ y5.1.a1_ y5.1.a2_ y5.1.a3_)), .box b3 25 (api_Qid.enc (api_Qid.mk y6 y7 y8)), .box b2 78 (Arr4_string.enc y5.1), .box b1 27 (api_Dir.enc (api_Dir.mk 0 0 (api_Qid.mk 0 0 0) 0 0 0 0 [] [] [] []))]) hE hS rfl rfl 0 rfl rfl rfl rfl (by kernel_rfl) (by kernel_rfl) (by kernel_rfl) (api_Dir.enc (api_Dir.mk y9 y10 (api_Qid.mk y6 y7 y8) y11 y12 y13 y14 y5.1.a0_ y5.1.a1_ y5.1.a2_ y5.1.a3_)) (by kernel_rfl) rfl fun w hS => ?_
  refine st_nil (n_then ⟨fun h => absurd h (by decide), ?_⟩)
  refine mx_nil fun w hx => ?_
  have hS := hS.ext hx
  refine n_then ?_
  refine wp_seq ?_
  refine wp_seq ?_
  refine r_list ?_
  refine st_run hE rfl 97 rfl rfl (.agg (api_Dir.enc (api_Dir.mk y9 y10 (api_Qid.mk y6 y7 y8) y11 y12 y13 y14 y5.1.a0_ y5.1.a1_ y5.1.a2_ y5.1.a3_)).toArray) (ld_box hE hS 0 rfl rfl rfl (by kernel_rfl)) fun a hE => ?_
  obtain ⟨y15, h15, hF⟩ := bind_some hF
  refine go_call hE rfl 98 rfl rfl 30 _ (by kernel_rfl) (W_ref07_Check (api_Dir.mk y9 y10 (api_Qid.mk y6 y7 y8) y11 y12 y13 y14 y5.1.a0_ y5.1.a1_ y5.1.a2_ y5.1.a3_) _ h15 _ ) fun a v w hR hE => ?_
  obtain ⟨rfl, hq⟩ := hR
  have hS := hS.call hq rfl
  refine st_pure hE rfl 13 rfl rfl (.int .i64 y15) (by kernel_rfl) fun a hE => ?_
  refine st_nil ?_
  refine n_then ?_
  refine wp_seq ?_
  refine r_list ?_
  refine st_pure hE rfl 99 rfl rfl (.int .i64 y15) (by kernel_rfl) fun a hE => ?_
  refine st_pure hE rfl 100 rfl rfl (.bool (y15 != 0)) (by kernel_rfl) fun a hE => ?_
  refine st_nil ?_
  refine n_then ?_
  rcases Bool.eq_false_or_eq_true (y15 != 0) with hb | hb
  · have hF := if_t hF hb
    refine c_true hE rfl hb ?_
    refine wp_seq ?_
    refine r_list ?_
    refine st_pure hE rfl 101 rfl rfl (.agg (api_Dir.enc (api_Dir.mk 0 0 (api_Qid.mk 0 0 0) 0 0 0 0 [] [] [] [])).toArray) (by kernel_rfl) fun a hE => ?_
    refine st_pure hE rfl 102 rfl rfl (.int .i64 y15) (by kernel_rfl) fun a hE => ?_
    refine go_set (L' := [.box b4 27 (api_Dir.enc (api_Dir.mk y9 y10 (api_Qid.mk y6 y7 y8) y11 y12 y13 y14 y5.1.a0_ y5.1.a1_ y5.1.a2_ y5.1.a3_)), .box b3 25 (api_Qid.enc (api_Qid.mk y6 y7 y8)), .box b2 78 (Arr4_string.enc y5.1), .box b1 27 (api_Dir.enc (api_Dir.mk 0 0 (api_Qid.mk 0 0 0) 0 0 0 0 [] [] [] []))]) hE hS rfl rfl 3 rfl rfl rfl rfl (by kernel_rfl) (by kernel_rfl) (by kernel_rfl) (api_Dir.enc (api_Dir.mk 0 0 (api_Qid.mk 0 0 0) 0 0 0 0 [] [] [] [])) (by kernel_rfl) rfl fun w hS => ?_
    refine st_pure hE rfl 5 rfl rfl (.int .i64 0) (by kernel_rfl) fun a hE => ?_
    refine st_pure hE rfl 6 rfl rfl (.int .i64 y15) (by kernel_rfl) fun a hE => ?_
    refine st_nil ?_
    refine n_then ?_
    refine wp_ret ?_
    obtain rfl := Option.some.inj hF
    refine r_then ?_
    exact out (rs := [.cell 4 27, .tmp 5, .tmp 6]) (vs := [.agg (api_Dir.enc (api_Dir.mk 0 0 (api_Qid.mk 0 0 0) 0 0 0 0 [] [] [] [])).toArray, .int .i64 0, .int .i64 y15]) rfl hE hS (.cons (.cell (i := 3) rfl rfl (by kernel_rfl)) (.cons (.tmp rfl) (.cons (.tmp rfl) .nil))) ⟨rfl, hS.pick [] rfl rfl⟩
  have hF := if_f hF hb
  refine c_false hE rfl hb ?_
  refine wp_skip ?_
  refine n_then ?_
  refine wp_seq ?_
  refine r_list ?_
  refine st_run hE rfl 103 rfl rfl (.agg (api_Dir.enc (api_Dir.mk y9 y10 (api_Qid.mk y6 y7 y8) y11 y12 y13 y14 y5.1.a0_ y5.1.a1_ y5.1.a2_ y5.1.a3_)).toArray) (ld_box hE hS 0 rfl rfl rfl (by kernel_rfl)) fun a hE => ?_
  refine st_pure hE rfl 104 rfl rfl (.int .i64 x1) (by kernel_rfl) fun a hE => ?_
  refine st_pure hE rfl 105 rfl rfl (.int .i64 (w64 (x1 + 2))) (by kernel_rfl) fun a hE => ?_
  refine st_pure hE rfl 106 rfl rfl (.int .i64 (w64 ((IntKind.i64.wrap y1) + (w64 (256 * (IntKind.i64.wrap y2)))))) (by kernel_rfl) fun a hE => ?_
  refine st_pure hE rfl 107 rfl rfl (.int .i64 (w64 ((w64 (x1 + 2)) + (w64 ((IntKind.i64.wrap y1) + (w64 (256 * (IntKind.i64.wrap y2)))))))) (by kernel_rfl) fun a hE => ?_
  refine go_set (L' := [.box b4 27 (api_Dir.enc (api_Dir.mk y9 y10 (api_Qid.mk y6 y7 y8) y11 y12 y13 y14 y5.1.a0_ y5.1.a1_ y5.1.a2_ y5.1.a3_)), .box b3 25 (api_Qid.enc (api_Qid.mk y6 y7 y8)), .box b2 78 (Arr4_string.enc y5.1), .box b1 27 (api_Dir.enc (api_Dir.mk y9 y10 (api_Qid.mk y6 y7 y8) y11 y12 y13 y14 y5.1.a0_ y5.1.a1_ y5.1.a2_ y5.1.a3_))]) hE hS rfl rfl 3 rfl rfl rfl rfl (by kernel_rfl) (by kernel_rfl) (by kernel_rfl) (api_Dir.enc (api_Dir.mk y9 y10 (api_Qid.mk y6 y7 y8) y11 y12 y13 y14 y5.1.a0_ y5.1.a1_ y5.1.a2_ y5.1.a3_)) (by kernel_rfl) rfl fun w hS => ?_
  refine st_pure hE rfl 5 rfl rfl (.int .i64 (w64 ((w64 (x1 + 2)) + (w64 ((IntKind.i64.wrap y1) + (w64 (256 * (IntKind.i64.wrap y2)))))))) (by kernel_rfl) fun a hE => ?_
  refine st_pure hE rfl 6 rfl rfl (.int .i64 0) (by kernel_rfl) fun a hE => ?_
  refine st_nil ?_
  refine n_then ?_
  refine wp_ret ?_
  obtain rfl := Option.some.inj hF
  exact out (rs := [.cell 4 27, .tmp 5, .tmp 6]) (vs := [.agg (api_Dir.enc (api_Dir.mk y9 y10 (api_Qid.mk y6 y7 y8) y11 y12 y13 y14 y5.1.a0_ y5.1.a1_ y5.1.a2_ y5.1.a3_)).toArray, .int .i64 (w64 ((w64 (x1 + 2)) + (w64 ((IntKind.i64.wrap y1) + (w64 (256 * (IntKind.i64.wrap y2))))))), .int .i64 0]) rfl hE hS (.cons (.cell (i := 3) rfl rfl (by kernel_rfl)) (.cons (.tmp rfl) (.cons (.tmp rfl) .nil))) ⟨rfl, hS.pick [] rfl rfl⟩
/-- filespace/filespacelaw07.StatGets -/
theorem W_law07_StatGets (x0 : Str) (x1 : Int) (r : Bool) (hF : law07_StatGets x0 x1 = some r) (w0 : World)  : Ret Try.prog 10 #[S x0, .int .i64 x1] w0 fun v w => v = .bool r ∧ Sep [] w0 w [] := by
  refine enter Try.func10 rfl rfl rfl fun a hE => ?_
  have hS := Sep.start [] w0
  unfold law07_StatGets at hF
  refine wp_seq ?_
  refine r_list ?_
  refine st_pure hE rfl 4 rfl rfl (.bool false) (by kernel_rfl) fun a hE => ?_
  refine st_nil ?_
  refine n_then ?_
  refine wp_seq ?_
  refine wp_seq ?_
  refine r_list ?_
  refine st_pure hE rfl 11 rfl rfl (S x0) (by kernel_rfl) fun a hE => ?_
  refine st_pure hE rfl 12 rfl rfl (.int .i64 (x0.length : Int)) (by kernel_rfl) fun a hE => ?_
  refine st_pure hE rfl 13 rfl rfl (.bool (decide ((x0.length : Int) > 5000))) (by kernel_rfl) fun a hE => ?_
  refine st_nil ?_
  refine n_then ?_
  rcases Bool.eq_false_or_eq_true (decide ((x0.length : Int) > 5000)) with hb | hb
  · have hF := if_t hF hb
    refine c_true hE rfl hb ?_
    refine wp_seq ?_
    refine r_list ?_
    obtain ⟨y1, h1, hF⟩ := bind_some hF
    refine go_call hE rfl 14 rfl rfl 28 _ (by kernel_rfl) (W_law07_awake  _ h1 _ ) fun a v w hR hE => ?_
    obtain ⟨rfl, hq⟩ := hR
    have hS := hS.call hq rfl
    refine st_pure hE rfl 4 rfl rfl (.bool y1) (by kernel_rfl) fun a hE => ?_
    refine st_nil ?_
    refine n_then ?_
    refine wp_ret ?_
    obtain rfl := Option.some.inj hF
    refine r_then ?_
    exact out (rs := [.tmp 4]) (vs := [.bool y1]) rfl hE hS (.cons (.tmp rfl) .nil) ⟨rfl, hS.pick [] rfl rfl⟩
  have hF := if_f hF hb
  refine c_false hE rfl hb ?_
  refine wp_skip ?_
  refine n_then ?_
  refine wp_seq ?_
  refine r_list ?_
  refine st_pure hE rfl 16 rfl rfl (S x0) (by kernel_rfl) fun a hE => ?_
  refine st_pure hE rfl 17 rfl rfl (.int .i64 x1) (by kernel_rfl) fun a hE => ?_
  obtain ⟨y2, h2, hF⟩ := bind_some hF
  refine go_call hE rfl 18 rfl rfl 33 _ (by kernel_rfl) (W_stat_Get x0 x1 _ h2 _ ) fun a v w hR hE => ?_
  obtain ⟨rfl, hq⟩ := hR
  have hS := hS.call hq rfl
  refine st_pure hE rfl 15 rfl rfl (.tuple #[.agg (api_Dir.enc y2.1).toArray, .int .i64 y2.2.1, .int .i64 y2.2.2]) (by kernel_rfl) fun a hE => ?_
  refine st_pure hE rfl 19 rfl rfl (.agg (api_Dir.enc y2.1).toArray) (by kernel_rfl) fun a hE => ?_
  refine st_pure hE rfl 20 rfl rfl (.int .i64 y2.2.1) (by kernel_rfl) fun a hE => ?_
  refine st_pure hE rfl 21 rfl rfl (.int .i64 y2.2.2) (by kernel_rfl) fun a hE => ?_
  refine go_box hE hS rfl 5 rfl rfl 27 (api_Dir.enc (api_Dir.mk 0 0 (api_Qid.mk 0 0 0) 0 0 0 0 [] [] [] [])) (fun _ => by kernel_rfl) fun a w b1 hx hE hS => ?_
  refine go_set (L' := [.box b1 27 (api_Dir.enc y2.1)]) hE hS rfl rfl 0 rfl rfl rfl rfl (by kernel_rfl) (by kernel_rfl) (by kernel_rfl) (api_Dir.enc y2.1) (by kernel_rfl) rfl fun w hS => ?_
  refine st_pure hE rfl 6 rfl rfl (.int .i64 y2.2.1) (by kernel_rfl) fun a hE => ?_
  refine st_pure hE rfl 7 rfl rfl (.int .i64 y2.2.2) (by kernel_rfl) fun a hE => ?_
  refine st_nil ?_
  refine n_then ?_
  refine wp_seq ?_
  refine r_list ?_
  refine st_pure hE rfl 23 rfl rfl (S x0) (by kernel_rfl) fun a hE => ?_
  refine st_pure hE rfl 24 rfl rfl (.int .i64 x1) (by kernel_rfl) fun a hE => ?_
  obtain ⟨y3, h3, hF⟩ := bind_some hF
  refine go_call hE rfl 25 rfl rfl 34 _ (by kernel_rfl) (W_ref07_Get x0 x1 _ h3 _ ) fun a v w hR hE => ?_
  obtain ⟨rfl, hq⟩ := hR
  have hS := hS.call hq rfl
  refine st_pure hE rfl 22 rfl rfl (.tuple #[.agg (api_Dir.enc y3.1).toArray, .int .i64 y3.2.1, .int .i64 y3.2.2]) (by kernel_rfl) fun a hE => ?_
  refine st_pure hE rfl 26 rfl rfl (.agg (api_Dir.enc y3.1).toArray) (by kernel_rfl) fun a hE => ?_
  refine st_pure hE rfl 27 rfl rfl (.int .i64 y3.2.1) (by kernel_rfl) fun a hE => ?_
  refine st_pure hE rfl 28 rfl rfl (.int .i64 y3.2.2) (by kernel_rfl) fun a hE => ?_
  refine go_box hE hS rfl 8 rfl rfl 27 (api_Dir.enc (api_Dir.mk 0 0 (api_Qid.mk 0 0 0) 0 0 0 0 [] [] [] [])) (fun _ => by kernel_rfl) fun a w b2 hx hE hS => ?_
  refine go_set (L' := [.box b2 27 (api_Dir.enc y3.1), .box b1 27 (api_Dir.enc y2.1)]) hE hS rfl rfl 0 rfl rfl rfl rfl (by kernel_rfl) (by kernel_rfl) (by kernel_rfl) (api_Dir.enc y3.1) (by kernel_rfl) rfl fun w hS => ?_
  refine st_pure hE rfl 9 rfl rfl (.int .i64 y3.2.1) (by kernel_rfl) fun a hE => ?_
  refine st_pure hE rfl 10 rfl rfl (.int .i64 y3.2.2) (by kernel_rfl) fun a hE => ?_
  refine st_nil ?_
  refine n_then ?_
  refine wp_seq ?_
  refine r_list ?_
  refine st_run hE rfl 29 rfl rfl (.agg (api_Dir.enc y2.1).toArray) (ld_box hE hS 1 rfl rfl rfl (by kernel_rfl)) fun a hE => ?_
  refine st_run hE rfl 30 rfl rfl (.agg (api_Dir.enc y3.1).toArray) (ld_box hE hS 0 rfl rfl rfl (by kernel_rfl)) fun a hE => ?_
  refine st_run hE rfl 31 rfl rfl (.bool (decide (y2.1 = y3.1))) (run_agg_eql rfl (hE.eval rfl) (hE.eval rfl) (api_Dir_eqIs _ _)) fun a hE => ?_
  refine st_pure hE rfl 32 rfl rfl (.bool (decide (y2.1 = y3.1))) (by kernel_rfl) fun a hE => ?_
  refine st_cut 4 (fun a w => Env 45 a [(36, .bool ((decide (y2.1 = y3.1)) && (y2.2.1 == y3.2.1))), (7, .int .i64 y2.2.2), (10, .int .i64 y3.2.2)] ∧ Sep [] w0 w [.box b2 27 (api_Dir.enc y3.1), .box b1 27 (api_Dir.enc y2.1)]) ?_ ?_
  · rcases Bool.eq_false_or_eq_true (decide (y2.1 = y3.1)) with hb | hb
    · have hE := hE.bool (t := 32) rfl hb
      refine st_pure hE rfl 33 rfl rfl (.int .i64 y2.2.1) (by kernel_rfl) fun a hE => ?_
      refine st_pure hE rfl 34 rfl rfl (.int .i64 y3.2.1) (by kernel_rfl) fun a hE => ?_
      refine st_pure hE rfl 35 rfl rfl (.bool (y2.2.1 == y3.2.1)) (by kernel_rfl) fun a hE => ?_
      refine st_pure hE rfl 36 rfl rfl (.bool (y2.2.1 == y3.2.1)) (by kernel_rfl) fun a hE => ?_
      have hE := hE.re (t := 36) rfl (congrArg Value.bool (and_t (e := (y2.2.1 == y3.2.1)) hb))
      exact st_nil (n_then ⟨hE.sel ⟨rfl, rfl, rfl, trivial⟩, hS⟩)
    · have hE := hE.bool (t := 32) rfl hb
      refine st_not hE rfl 33 rfl rfl fun a hE => ?_
      refine st_not hE rfl 34 rfl rfl fun a hE => ?_
      refine st_not hE rfl 35 rfl rfl fun a hE => ?_
      refine st_pure hE rfl 36 rfl rfl (.bool false) (by kernel_rfl) fun a hE => ?_
      have hE := hE.re (t := 36) rfl (congrArg Value.bool (and_f (e := (y2.2.1 == y3.2.1)) hb))
      exact st_nil (n_then ⟨hE.sel ⟨rfl, rfl, rfl, trivial⟩, hS⟩)
  rintro a w ⟨hE, hS⟩
  refine st_pure hE rfl 37 rfl rfl (.bool ((decide (y2.1 = y3.1)) && (y2.2.1 == y3.2.1))) (by kernel_rfl) fun a hE => ?_
  refine st_cut 4 (fun a w => Env 45 a [(41, .bool (((decide (y2.1 = y3.1)) && (y2.2.1 == y3.2.1)) && (y2.2.2 == y3.2.2)))] ∧ Sep [] w0 w [.box b2 27 (api_Dir.enc y3.1), .box b1 27 (api_Dir.enc y2.1)]) ?_ ?_
  · rcases Bool.eq_false_or_eq_true ((decide (y2.1 = y3.1)) && (y2.2.1 == y3.2.1)) with hb | hb
    · have hE := hE.bool (t := 37) rfl hb
      refine st_pure hE rfl 38 rfl rfl (.int .i64 y2.2.2) (by kernel_rfl) fun a hE => ?_
      refine st_pure hE rfl 39 rfl rfl (.int .i64 y3.2.2) (by kernel_rfl) fun a hE => ?_
      refine st_pure hE rfl 40 rfl rfl (.bool (y2.2.2 == y3.2.2)) (by kernel_rfl) fun a hE => ?_
      refine st_pure hE rfl 41 rfl rfl (.bool (y2.2.2 == y3.2.2)) (by kernel_rfl) fun a hE => ?_
      have hE := hE.re (t := 41) rfl (congrArg Value.bool (and_t (e := (y2.2.2 == y3.2.2)) hb))
      exact st_nil (n_then ⟨hE.sel ⟨rfl, trivial⟩, hS⟩)
    · have hE := hE.bool (t := 37) rfl hb
      refine st_not hE rfl 38 rfl rfl fun a hE => ?_
      refine st_not hE rfl 39 rfl rfl fun a hE => ?_
      refine st_not hE rfl 40 rfl rfl fun a hE => ?_
      refine st_pure hE rfl 41 rfl rfl (.bool false) (by kernel_rfl) fun a hE => ?_
      have hE := hE.re (t := 41) rfl (congrArg Value.bool (and_f (e := (y2.2.2 == y3.2.2)) hb))
      exact st_nil (n_then ⟨hE.sel ⟨rfl, trivial⟩, hS⟩)
  rintro a w ⟨hE, hS⟩
  refine st_pure hE rfl 42 rfl rfl (.bool (((decide (y2.1 = y3.1)) && (y2.2.1 == y3.2.1)) && (y2.2.2 == y3.2.2))) (by kernel_rfl) fun a hE => ?_
  obtain ⟨y4, h4, hF⟩ := bind_some hF
  refine st_cut 2 (fun a w => Env 45 a [(44, .bool y4)] ∧ Sep [] w0 w [.box b2 27 (api_Dir.enc y3.1), .box b1 27 (api_Dir.enc y2.1)]) ?_ ?_
  · rcases Bool.eq_false_or_eq_true (((decide (y2.1 = y3.1)) && (y2.2.1 == y3.2.1)) && (y2.2.2 == y3.2.2)) with hb | hb
    · have hE := hE.bool (t := 42) rfl hb
      have h4 := if_t h4 hb
      obtain ⟨y5, h5, h4⟩ := bind_some h4
      refine go_call hE rfl 43 rfl rfl 28 _ (by kernel_rfl) (W_law07_awake  _ h5 _ ) fun a v w hR hE => ?_
      obtain ⟨rfl, hq⟩ := hR
      have hS := hS.call hq rfl
      refine st_pure hE rfl 44 rfl rfl (.bool y5) (by kernel_rfl) fun a hE => ?_
      obtain rfl := Option.some.inj h4
      exact st_nil (n_then ⟨hE.sel ⟨rfl, trivial⟩, hS⟩)
    · have hE := hE.bool (t := 42) rfl hb
      have h4 := if_f h4 hb
      refine st_not hE rfl 43 rfl rfl fun a hE => ?_
      refine st_pure hE rfl 44 rfl rfl (.bool false) (by kernel_rfl) fun a hE => ?_
      obtain rfl := Option.some.inj h4
      exact st_nil (n_then ⟨hE.sel ⟨rfl, trivial⟩, hS⟩)
  rintro a w ⟨hE, hS⟩
  refine st_pure hE rfl 4 rfl rfl (.bool y4) (by kernel_rfl) fun a hE => ?_
  refine st_nil ?_
  refine n_then ?_
  refine wp_ret ?_
  obtain rfl := Option.some.inj hF
  exact out (rs := [.tmp 4]) (vs := [.bool y4]) rfl hE hS (.cons (.tmp rfl) .nil) ⟨rfl, hS.pick [] rfl rfl⟩
/-- filespace/filespaceref07.None -/
theorem W_ref07_None  (r : api_Dir) (hF : ref07_None = some r) (w0 : World)  : Ret Try.prog 36 #[] w0 fun v w => v = .agg (api_Dir.enc r).toArray ∧ Sep [] w0 w [] := by
  refine enter Try.func36 rfl rfl rfl fun a hE => ?_
  have hS := Sep.start [] w0
  unfold ref07_None at hF
  refine wp_seq ?_
  refine r_list ?_
  refine go_box hE hS rfl 0 rfl rfl 27 (api_Dir.enc (api_Dir.mk 0 0 (api_Qid.mk 0 0 0) 0 0 0 0 [] [] [] [])) (fun _ => by kernel_rfl) fun a w b1 hx hE hS => ?_
  refine st_nil ?_
  refine n_then ?_
  refine wp_seq ?_
  refine r_list ?_
  refine st_pure hE rfl 1 rfl rfl (.agg (api_Qid.enc (api_Qid.mk (-1) (-1) (-1))).toArray) (by kernel_rfl) fun a hE => ?_
  refine st_pure hE rfl 2 rfl rfl (.agg (api_Dir.enc (api_Dir.mk (-1) (-1) (api_Qid.mk (-1) (-1) (-1)) (-1) (-1) (-1) (-1) [] [] [] [])).toArray) (by kernel_rfl) fun a hE => ?_
  refine go_set (L' := [.box b1 27 (api_Dir.enc (api_Dir.mk (-1) (-1) (api_Qid.mk (-1) (-1) (-1)) (-1) (-1) (-1) (-1) [] [] [] []))]) hE hS rfl rfl 0 rfl rfl rfl rfl (by kernel_rfl) (by kernel_rfl) (by kernel_rfl) (api_Dir.enc (api_Dir.mk (-1) (-1) (api_Qid.mk (-1) (-1) (-1)) (-1) (-1) (-1) (-1) [] [] [] [])) (by kernel_rfl) rfl fun w hS => ?_
  refine st_nil ?_
  refine n_then ?_
  refine wp_ret ?_
  obtain rfl := Option.some.inj hF
  exact out (rs := [.cell 0 27]) (vs := [.agg (api_Dir.enc (api_Dir.mk (-1) (-1) (api_Qid.mk (-1) (-1) (-1)) (-1) (-1) (-1) (-1) [] [] [] [])).toArray]) rfl hE hS (.cons (.cell (i := 0) rfl rfl (by kernel_rfl)) .nil) ⟨rfl, hS.pick [] rfl rfl⟩
/-- filespace/filespacelaw07.StatNones -/
theorem W_law07_StatNones (x0 : api_Dir) (r : Bool) (hF : law07_StatNones x0 = some r) (w0 : World)  : Ret Try.prog 11 #[.agg (api_Dir.enc x0).toArray] w0 fun v w => v = .bool r ∧ Sep [] w0 w [] := by
  refine enter Try.func11 rfl rfl rfl fun a hE => ?_
  have hS := Sep.start [] w0
  unfold law07_StatNones at hF
  refine wp_seq ?_
  refine r_list ?_
  refine go_box hE hS rfl 1 rfl rfl 27 (api_Dir.enc x0) (fun _ => by kernel_rfl) fun a w b1 hx hE hS => ?_
  refine st_pure hE rfl 2 rfl rfl (.bool false) (by kernel_rfl) fun a hE => ?_
  refine st_nil ?_
  refine n_then ?_
  refine wp_seq ?_
  refine r_mix [] [(0, false), (1, false), (2, false), (3, false), (4, false), (5, false), (6, false), (7, false), (8, false), (9, false), (10, false), (11, false), (12, false), (13, false), (14, false), (15, false), (16, false), (17, false), (18, false), (19, false)] rfl (by kernel_rfl) ?_
  have hW := hS
  have hX := hS.now
  obtain ⟨y1, h1, hF⟩ := bind_some hF
  refine mx_call hE rfl rfl 3 rfl rfl 35 _ (by kernel_rfl) (.agg (api_Dir.enc y1).toArray) (fun w hx => (W_stat_None  _ h1 _ ).mono fun u w ⟨hu, hq⟩ => ⟨hu, Ext.of_sep hq⟩) fun a hE => ?_
  obtain ⟨y2, h2, hF⟩ := bind_some hF
  refine mx_call hE rfl rfl 4 rfl rfl 36 _ (by kernel_rfl) (.agg (api_Dir.enc y2).toArray) (fun w hx => (W_ref07_None  _ h2 _ ).mono fun u w ⟨hu, hq⟩ => ⟨hu, Ext.of_sep hq⟩) fun a hE => ?_
  refine mx_run hE rfl rfl 5 rfl rfl (.bool (decide (y1 = y2))) (fun w hx => run_agg_eql rfl (hE.eval rfl) (hE.eval rfl) (api_Dir_eqIs _ _)) fun a hE => ?_
  refine mx_pure hE rfl rfl 6 rfl rfl (.bool (decide (y1 = y2))) (by kernel_rfl) fun a hE => ?_
  obtain ⟨y3, h3, hF⟩ := bind_some hF
  refine mx_cut 4 (fun a => Env 22 a [(10, .bool y3), (1, .pointer (some ⟨b1, 0, none⟩))]) rfl ?_ (fun a hE => ?_)
  · rcases Bool.eq_false_or_eq_true (decide (y1 = y2)) with hb | hb
    · have hE := hE.bool (t := 6) rfl hb
      have h3 := if_t h3 hb
      obtain ⟨y4, h4, h3⟩ := bind_some h3
      refine mx_call hE rfl rfl 7 rfl rfl 35 _ (by kernel_rfl) (.agg (api_Dir.enc y4).toArray) (fun w hx => (W_stat_None  _ h4 _ ).mono fun u w ⟨hu, hq⟩ => ⟨hu, Ext.of_sep hq⟩) fun a hE => ?_
      obtain ⟨y5, h5, h3⟩ := bind_some h3
      refine mx_call hE rfl rfl 8 rfl rfl 29 _ (by kernel_rfl) (.int .i64 y5) (fun w hx => (W_stat_Check y4 _ h5 _ ).mono fun u w ⟨hu, hq⟩ => ⟨hu, Ext.of_sep hq⟩) fun a hE => ?_
      refine mx_pure hE rfl rfl 9 rfl rfl (.bool (y5 == 0)) (by kernel_rfl) fun a hE => ?_
      refine mx_pure hE rfl rfl 10 rfl rfl (.bool (y5 == 0)) (by kernel_rfl) fun a hE => ?_
      obtain rfl := Option.some.inj h3
      exact mx_nil fun w hx => hE.sel ⟨rfl, rfl, trivial⟩
    · have hE := hE.bool (t := 6) rfl hb
      have h3 := if_f h3 hb
      refine mx_not hE rfl rfl 7 rfl rfl fun a hE => ?_
      refine mx_not hE rfl rfl 8 rfl rfl fun a hE => ?_
      refine mx_not hE rfl rfl 9 rfl rfl fun a hE => ?_
      refine mx_pure hE rfl rfl 10 rfl rfl (.bool false) (by kernel_rfl) fun a hE => ?_
      obtain rfl := Option.some.inj h3
      exact mx_nil fun w hx => hE.sel ⟨rfl, rfl, trivial⟩
  refine mx_pure hE rfl rfl 11 rfl rfl (.bool y3) (by kernel_rfl) fun a hE => ?_
  obtain ⟨y6, h6, hF⟩ := bind_some hF
  refine mx_cut 7 (fun a => Env 22 a [(18, .bool y6)]) rfl ?_ (fun a hE => ?_)
  · rcases Bool.eq_false_or_eq_true y3 with hb | hb
    · have hE := hE.bool (t := 11) rfl hb
      have h6 := if_t h6 hb
      refine mx_run hE rfl rfl 12 rfl rfl (.agg (api_Dir.enc x0).toArray) (fun w hx => ld_box hE (hW.ext hx) 0 rfl rfl rfl (by kernel_rfl)) fun a hE => ?_
      obtain ⟨y7, h7, h6⟩ := bind_some h6
      refine mx_call hE rfl rfl 13 rfl rfl 37 _ (by kernel_rfl) (.bool y7) (fun w hx => (W_stat_Changes x0 _ h7 _ ).mono fun u w ⟨hu, hq⟩ => ⟨hu, Ext.of_sep hq⟩) fun a hE => ?_
      refine mx_run hE rfl rfl 14 rfl rfl (.agg (api_Dir.enc x0).toArray) (fun w hx => ld_box hE (hW.ext hx) 0 rfl rfl rfl (by kernel_rfl)) fun a hE => ?_
      obtain ⟨y8, h8, h6⟩ := bind_some h6
      refine mx_call hE rfl rfl 15 rfl rfl 36 _ (by kernel_rfl) (.agg (api_Dir.enc y8).toArray) (fun w hx => (W_ref07_None  _ h8 _ ).mono fun u w ⟨hu, hq⟩ => ⟨hu, Ext.of_sep hq⟩) fun a hE => ?_
      refine mx_run hE rfl rfl 16 rfl rfl (.bool (!(decide (x0 = y8)))) (fun w hx => run_agg_neq rfl (hE.eval rfl) (hE.eval rfl) (api_Dir_eqIs _ _)) fun a hE => ?_
      refine mx_run hE rfl rfl 17 rfl rfl (.bool (y7 == (!(decide (x0 = y8))))) (fun w hx => run_bool_eql rfl (by kernel_rfl) (hE.eval rfl) (hE.eval rfl)) fun a hE => ?_
      refine mx_pure hE rfl rfl 18 rfl rfl (.bool (y7 == (!(decide (x0 = y8))))) (by kernel_rfl) fun a hE => ?_
      obtain rfl := Option.some.inj h6
      exact mx_nil fun w hx => hE.sel ⟨rfl, trivial⟩
    · have hE := hE.bool (t := 11) rfl hb
      have h6 := if_f h6 hb
      refine mx_not hE rfl rfl 12 rfl rfl fun a hE => ?_
      refine mx_not hE rfl rfl 13 rfl rfl fun a hE => ?_
      refine mx_not hE rfl rfl 14 rfl rfl fun a hE => ?_
      refine mx_not hE rfl rfl 15 rfl rfl fun a hE => ?_
      refine mx_not hE rfl rfl 16 rfl rfl fun a hE => ?_
      refine mx_not hE rfl rfl 17 rfl rfl fun a hE => ?_
      refine mx_pure hE rfl rfl 18 rfl rfl (.bool false) (by kernel_rfl) fun a hE => ?_
      obtain rfl := Option.some.inj h6
      exact mx_nil fun w hx => hE.sel ⟨rfl, trivial⟩
  refine mx_pure hE rfl rfl 19 rfl rfl (.bool y6) (by kernel_rfl) fun a hE => ?_
  obtain ⟨y9, h9, hF⟩ := bind_some hF
  refine mx_cut 2 (fun a => Env 22 a [(21, .bool y9)]) rfl ?_ (fun a hE => ?_)
  · rcases Bool.eq_false_or_eq_true y6 with hb | hb
    · have hE := hE.bool (t := 19) rfl hb
      have h9 := if_t h9 hb
      obtain ⟨y10, h10, h9⟩ := bind_some h9
      refine mx_call hE rfl rfl 20 rfl rfl 28 _ (by kernel_rfl) (.bool y10) (fun w hx => (W_law07_awake  _ h10 _ ).mono fun u w ⟨hu, hq⟩ => ⟨hu, Ext.of_sep hq⟩) fun a hE => ?_
      refine mx_pure hE rfl rfl 21 rfl rfl (.bool y10) (by kernel_rfl) fun a hE => ?_
      obtain rfl := Option.some.inj h9
      exact mx_nil fun w hx => hE.sel ⟨rfl, trivial⟩
    · have hE := hE.bool (t := 19) rfl hb
      have h9 := if_f h9 hb
      refine mx_not hE rfl rfl 20 rfl rfl fun a hE => ?_
      refine mx_pure hE rfl rfl 21 rfl rfl (.bool false) (by kernel_rfl) fun a hE => ?_
      obtain rfl := Option.some.inj h9
      exact mx_nil fun w hx => hE.sel ⟨rfl, trivial⟩
  refine mx_pure hE rfl rfl 2 rfl rfl (.bool y9) (by kernel_rfl) fun a hE => ?_
  refine mx_nil fun w hx => ?_
  have hS := hS.ext hx
  refine n_then ?_
  refine wp_ret ?_
  obtain rfl := Option.some.inj hF
  exact out (rs := [.tmp 2]) (vs := [.bool y9]) rfl hE hS (.cons (.tmp rfl) .nil) ⟨rfl, hS.pick [] rfl rfl⟩
/-- filespace/filespacelaw07.StatReturns -/
theorem W_law07_StatReturns (x0 : api_Dir) (x1 : Str) (x2 : Str) (r : Bool) (hF : law07_StatReturns x0 x1 x2 = some r) (w0 : World)  : Ret Try.prog 12 #[.agg (api_Dir.enc x0).toArray, S x1, S x2] w0 fun v w => v = .bool r ∧ Sep [] w0 w [] := by
  refine enter Try.func12 rfl rfl rfl fun a hE => ?_
  have hS := Sep.start [] w0
  unfold law07_StatReturns at hF
  refine wp_seq ?_
  refine r_list ?_
  refine go_box hE hS rfl 3 rfl rfl 27 (api_Dir.enc x0) (fun _ => by kernel_rfl) fun a w b1 hx hE hS => ?_
  refine st_pure hE rfl 6 rfl rfl (.bool false) (by kernel_rfl) fun a hE => ?_
  refine st_nil ?_
  refine n_then ?_
  refine wp_seq ?_
  refine wp_seq ?_
  refine r_list ?_
  refine st_pure hE rfl 12 rfl rfl (S x1) (by kernel_rfl) fun a hE => ?_
  refine st_pure hE rfl 13 rfl rfl (.int .i64 (x1.length : Int)) (by kernel_rfl) fun a hE => ?_
  refine st_pure hE rfl 14 rfl rfl (.bool (decide ((x1.length : Int) > 200))) (by kernel_rfl) fun a hE => ?_
  refine st_pure hE rfl 15 rfl rfl (.bool (decide ((x1.length : Int) > 200))) (by kernel_rfl) fun a hE => ?_
  refine st_cut 4 (fun a w => Env 66 a [(19, .bool ((decide ((x1.length : Int) > 200)) || (decide ((x2.length : Int) > 200)))), (1, S x1), (2, S x2), (3, .pointer (some ⟨b1, 0, none⟩))] ∧ Sep [] w0 w [.box b1 27 (api_Dir.enc x0)]) ?_ ?_
  · rcases Bool.eq_false_or_eq_true (decide ((x1.length : Int) > 200)) with hb | hb
    · have hE := hE.bool (t := 15) rfl hb
      refine st_not hE rfl 16 rfl rfl fun a hE => ?_
      refine st_not hE rfl 17 rfl rfl fun a hE => ?_
      refine st_not hE rfl 18 rfl rfl fun a hE => ?_
      refine st_pure hE rfl 19 rfl rfl (.bool true) (by kernel_rfl) fun a hE => ?_
      have hE := hE.re (t := 19) rfl (congrArg Value.bool (or_t (e := (decide ((x2.length : Int) > 200))) hb))
      exact st_nil (n_then ⟨hE.sel ⟨rfl, rfl, rfl, rfl, trivial⟩, hS⟩)
    · have hE := hE.bool (t := 15) rfl hb
      refine st_pure hE rfl 16 rfl rfl (S x2) (by kernel_rfl) fun a hE => ?_
      refine st_pure hE rfl 17 rfl rfl (.int .i64 (x2.length : Int)) (by kernel_rfl) fun a hE => ?_
      refine st_pure hE rfl 18 rfl rfl (.bool (decide ((x2.length : Int) > 200))) (by kernel_rfl) fun a hE => ?_
      refine st_pure hE rfl 19 rfl rfl (.bool (decide ((x2.length : Int) > 200))) (by kernel_rfl) fun a hE => ?_
      have hE := hE.re (t := 19) rfl (congrArg Value.bool (or_f (e := (decide ((x2.length : Int) > 200))) hb))
      exact st_nil (n_then ⟨hE.sel ⟨rfl, rfl, rfl, rfl, trivial⟩, hS⟩)
  rintro a w ⟨hE, hS⟩
  refine st_pure hE rfl 20 rfl rfl (.bool ((decide ((x1.length : Int) > 200)) || (decide ((x2.length : Int) > 200)))) (by kernel_rfl) fun a hE => ?_
  obtain ⟨y1, h1, hF⟩ := bind_some hF
  refine st_cut 4 (fun a w => Env 66 a [(24, .bool y1), (1, S x1), (2, S x2), (3, .pointer (some ⟨b1, 0, none⟩))] ∧ Sep [] w0 w [.box b1 27 (api_Dir.enc x0)]) ?_ ?_
  · rcases Bool.eq_false_or_eq_true ((decide ((x1.length : Int) > 200)) || (decide ((x2.length : Int) > 200))) with hb | hb
    · have hE := hE.bool (t := 20) rfl hb
      have h1 := if_t h1 hb
      refine st_not hE rfl 21 rfl rfl fun a hE => ?_
      refine st_not hE rfl 22 rfl rfl fun a hE => ?_
      refine st_not hE rfl 23 rfl rfl fun a hE => ?_
      refine st_pure hE rfl 24 rfl rfl (.bool true) (by kernel_rfl) fun a hE => ?_
      obtain rfl := Option.some.inj h1
      exact st_nil (n_then ⟨hE.sel ⟨rfl, rfl, rfl, rfl, trivial⟩, hS⟩)
    · have hE := hE.bool (t := 20) rfl hb
      have h1 := if_f h1 hb
      refine st_run hE rfl 21 rfl rfl (.agg (api_Dir.enc x0).toArray) (ld_box hE hS 0 rfl rfl rfl (by kernel_rfl)) fun a hE => ?_
      obtain ⟨y2, h2, h1⟩ := bind_some h1
      refine go_call hE rfl 22 rfl rfl 30 _ (by kernel_rfl) (W_ref07_Check x0 _ h2 _ ) fun a v w hR hE => ?_
      obtain ⟨rfl, hq⟩ := hR
      have hS := hS.call hq rfl
      refine st_pure hE rfl 23 rfl rfl (.bool (y2 != 0)) (by kernel_rfl) fun a hE => ?_
      refine st_pure hE rfl 24 rfl rfl (.bool (y2 != 0)) (by kernel_rfl) fun a hE => ?_
      obtain rfl := Option.some.inj h1
      exact st_nil (n_then ⟨hE.sel ⟨rfl, rfl, rfl, rfl, trivial⟩, hS⟩)
  rintro a w ⟨hE, hS⟩
  refine st_nil ?_
  refine n_then ?_
  rcases Bool.eq_false_or_eq_true y1 with hb | hb
  · have hF := if_t hF hb
    refine c_true hE rfl hb ?_
    refine wp_seq ?_
    refine r_list ?_
    obtain ⟨y3, h3, hF⟩ := bind_some hF
    refine go_call hE rfl 25 rfl rfl 28 _ (by kernel_rfl) (W_law07_awake  _ h3 _ ) fun a v w hR hE => ?_
    obtain ⟨rfl, hq⟩ := hR
    have hS := hS.call hq rfl
    refine st_pure hE rfl 6 rfl rfl (.bool y3) (by kernel_rfl) fun a hE => ?_
    refine st_nil ?_
    refine n_then ?_
    refine wp_ret ?_
    obtain rfl := Option.some.inj hF
    refine r_then ?_
    exact out (rs := [.tmp 6]) (vs := [.bool y3]) rfl hE hS (.cons (.tmp rfl) .nil) ⟨rfl, hS.pick [] rfl rfl⟩
  have hF := if_f hF hb
  refine c_false hE rfl hb ?_
  refine wp_skip ?_
  refine n_then ?_
  refine wp_seq ?_
  refine r_list ?_
  refine st_run hE rfl 27 rfl rfl (.agg (api_Dir.enc x0).toArray) (ld_box hE hS 0 rfl rfl rfl (by kernel_rfl)) fun a hE => ?_
  obtain ⟨y4, h4, hF⟩ := bind_some hF
  refine go_call hE rfl 28 rfl rfl 31 _ (by kernel_rfl) (W_stat_Put x0 _ h4 _ ) fun a v w hR hE => ?_
  obtain ⟨rfl, hq⟩ := hR
  have hS := hS.call hq rfl
  refine st_pure hE rfl 26 rfl rfl (.tuple #[S y4.1, .int .i64 y4.2]) (by kernel_rfl) fun a hE => ?_
  refine st_pure hE rfl 29 rfl rfl (S y4.1) (by kernel_rfl) fun a hE => ?_
  refine st_pure hE rfl 30 rfl rfl (.int .i64 y4.2) (by kernel_rfl) fun a hE => ?_
  refine st_pure hE rfl 7 rfl rfl (S y4.1) (by kernel_rfl) fun a hE => ?_
  refine st_pure hE rfl 8 rfl rfl (.int .i64 y4.2) (by kernel_rfl) fun a hE => ?_
  refine st_nil ?_
  refine n_then ?_
  refine wp_seq ?_
  refine r_list ?_
  refine st_pure hE rfl 32 rfl rfl (S x1) (by kernel_rfl) fun a hE => ?_
  refine st_pure hE rfl 33 rfl rfl (S y4.1) (by kernel_rfl) fun a hE => ?_
  obtain ⟨y5, h5, hF⟩ := bind_some hF
  refine st_run hE rfl 34 rfl rfl (S y5) (run_cat rfl (hE.eval rfl) (hE.eval rfl) h5) fun a hE => ?_
  refine st_pure hE rfl 35 rfl rfl (S x2) (by kernel_rfl) fun a hE => ?_
  obtain ⟨y6, h6, hF⟩ := bind_some hF
  refine st_run hE rfl 36 rfl rfl (S y6) (run_cat rfl (hE.eval rfl) (hE.eval rfl) h6) fun a hE => ?_
  refine st_pure hE rfl 37 rfl rfl (S x1) (by kernel_rfl) fun a hE => ?_
  refine st_pure hE rfl 38 rfl rfl (.int .i64 (x1.length : Int)) (by kernel_rfl) fun a hE => ?_
  obtain ⟨y7, h7, hF⟩ := bind_some hF
  refine go_call hE rfl 39 rfl rfl 33 _ (by kernel_rfl) (W_stat_Get y6 (x1.length : Int) _ h7 _ ) fun a v w hR hE => ?_
  obtain ⟨rfl, hq⟩ := hR
  have hS := hS.call hq rfl
  refine st_pure hE rfl 31 rfl rfl (.tuple #[.agg (api_Dir.enc y7.1).toArray, .int .i64 y7.2.1, .int .i64 y7.2.2]) (by kernel_rfl) fun a hE => ?_
  refine st_pure hE rfl 40 rfl rfl (.agg (api_Dir.enc y7.1).toArray) (by kernel_rfl) fun a hE => ?_
  refine st_pure hE rfl 41 rfl rfl (.int .i64 y7.2.1) (by kernel_rfl) fun a hE => ?_
  refine st_pure hE rfl 42 rfl rfl (.int .i64 y7.2.2) (by kernel_rfl) fun a hE => ?_
  refine go_box hE hS rfl 9 rfl rfl 27 (api_Dir.enc (api_Dir.mk 0 0 (api_Qid.mk 0 0 0) 0 0 0 0 [] [] [] [])) (fun _ => by kernel_rfl) fun a w b2 hx hE hS => ?_
  refine go_set (L' := [.box b2 27 (api_Dir.enc y7.1), .box b1 27 (api_Dir.enc x0)]) hE hS rfl rfl 0 rfl rfl rfl rfl (by kernel_rfl) (by kernel_rfl) (by kernel_rfl) (api_Dir.enc y7.1) (by kernel_rfl) rfl fun w hS => ?_
  refine st_pure hE rfl 10 rfl rfl (.int .i64 y7.2.1) (by kernel_rfl) fun a hE => ?_
  refine st_pure hE rfl 11 rfl rfl (.int .i64 y7.2.2) (by kernel_rfl) fun a hE => ?_
  refine st_nil ?_
  refine n_then ?_
  refine wp_seq ?_
  refine r_list ?_
  refine st_pure hE rfl 43 rfl rfl (.int .i64 y4.2) (by kernel_rfl) fun a hE => ?_
  refine st_pure hE rfl 44 rfl rfl (.bool (y4.2 == 0)) (by kernel_rfl) fun a hE => ?_
  refine st_pure hE rfl 45 rfl rfl (.bool (y4.2 == 0)) (by kernel_rfl) fun a hE => ?_
  refine st_cut 3 (fun a w => Env 66 a [(48, .bool ((y4.2 == 0) && (y7.2.2 == 0))), (1, S x1), (3, .pointer (some ⟨b1, 0, none⟩)), (7, S y4.1), (9, .pointer (some ⟨b2, 0, none⟩)), (10, .int .i64 y7.2.1)] ∧ Sep [] w0 w [.box b2 27 (api_Dir.enc y7.1), .box b1 27 (api_Dir.enc x0)]) ?_ ?_
  · rcases Bool.eq_false_or_eq_true (y4.2 == 0) with hb | hb
    · have hE := hE.bool (t := 45) rfl hb
      refine st_pure hE rfl 46 rfl rfl (.int .i64 y7.2.2) (by kernel_rfl) fun a hE => ?_
      refine st_pure hE rfl 47 rfl rfl (.bool (y7.2.2 == 0)) (by kernel_rfl) fun a hE => ?_
      refine st_pure hE rfl 48 rfl rfl (.bool (y7.2.2 == 0)) (by kernel_rfl) fun a hE => ?_
      have hE := hE.re (t := 48) rfl (congrArg Value.bool (and_t (e := (y7.2.2 == 0)) hb))
      exact st_nil (n_then ⟨hE.sel ⟨rfl, rfl, rfl, rfl, rfl, rfl, trivial⟩, hS⟩)
    · have hE := hE.bool (t := 45) rfl hb
      refine st_not hE rfl 46 rfl rfl fun a hE => ?_
      refine st_not hE rfl 47 rfl rfl fun a hE => ?_
      refine st_pure hE rfl 48 rfl rfl (.bool false) (by kernel_rfl) fun a hE => ?_
      have hE := hE.re (t := 48) rfl (congrArg Value.bool (and_f (e := (y7.2.2 == 0)) hb))
      exact st_nil (n_then ⟨hE.sel ⟨rfl, rfl, rfl, rfl, rfl, rfl, trivial⟩, hS⟩)
  rintro a w ⟨hE, hS⟩
  refine st_pure hE rfl 49 rfl rfl (.bool ((y4.2 == 0) && (y7.2.2 == 0))) (by kernel_rfl) fun a hE => ?_
  refine st_cut 4 (fun a w => Env 66 a [(53, .bool (((y4.2 == 0) && (y7.2.2 == 0)) && (decide (y7.1 = x0)))), (1, S x1), (7, S y4.1), (10, .int .i64 y7.2.1)] ∧ Sep [] w0 w [.box b2 27 (api_Dir.enc y7.1), .box b1 27 (api_Dir.enc x0)]) ?_ ?_
  · rcases Bool.eq_false_or_eq_true ((y4.2 == 0) && (y7.2.2 == 0)) with hb | hb
    · have hE := hE.bool (t := 49) rfl hb
      refine st_run hE rfl 50 rfl rfl (.agg (api_Dir.enc y7.1).toArray) (ld_box hE hS 0 rfl rfl rfl (by kernel_rfl)) fun a hE => ?_
      refine st_run hE rfl 51 rfl rfl (.agg (api_Dir.enc x0).toArray) (ld_box hE hS 1 rfl rfl rfl (by kernel_rfl)) fun a hE => ?_
      refine st_run hE rfl 52 rfl rfl (.bool (decide (y7.1 = x0))) (run_agg_eql rfl (hE.eval rfl) (hE.eval rfl) (api_Dir_eqIs _ _)) fun a hE => ?_
      refine st_pure hE rfl 53 rfl rfl (.bool (decide (y7.1 = x0))) (by kernel_rfl) fun a hE => ?_
      have hE := hE.re (t := 53) rfl (congrArg Value.bool (and_t (e := (decide (y7.1 = x0))) hb))
      exact st_nil (n_then ⟨hE.sel ⟨rfl, rfl, rfl, rfl, trivial⟩, hS⟩)
    · have hE := hE.bool (t := 49) rfl hb
      refine st_not hE rfl 50 rfl rfl fun a hE => ?_
      refine st_not hE rfl 51 rfl rfl fun a hE => ?_
      refine st_not hE rfl 52 rfl rfl fun a hE => ?_
      refine st_pure hE rfl 53 rfl rfl (.bool false) (by kernel_rfl) fun a hE => ?_
      have hE := hE.re (t := 53) rfl (congrArg Value.bool (and_f (e := (decide (y7.1 = x0))) hb))
      exact st_nil (n_then ⟨hE.sel ⟨rfl, rfl, rfl, rfl, trivial⟩, hS⟩)
  rintro a w ⟨hE, hS⟩
  refine st_pure hE rfl 54 rfl rfl (.bool (((y4.2 == 0) && (y7.2.2 == 0)) && (decide (y7.1 = x0)))) (by kernel_rfl) fun a hE => ?_
  refine st_cut 8 (fun a w => Env 66 a [(62, .bool ((((y4.2 == 0) && (y7.2.2 == 0)) && (decide (y7.1 = x0))) && (y7.2.1 == (w64 ((x1.length : Int) + (y4.1.length : Int))))))] ∧ Sep [] w0 w [.box b2 27 (api_Dir.enc y7.1), .box b1 27 (api_Dir.enc x0)]) ?_ ?_
  · rcases Bool.eq_false_or_eq_true (((y4.2 == 0) && (y7.2.2 == 0)) && (decide (y7.1 = x0))) with hb | hb
    · have hE := hE.bool (t := 54) rfl hb
      refine st_pure hE rfl 55 rfl rfl (.int .i64 y7.2.1) (by kernel_rfl) fun a hE => ?_
      refine st_pure hE rfl 56 rfl rfl (S x1) (by kernel_rfl) fun a hE => ?_
      refine st_pure hE rfl 57 rfl rfl (.int .i64 (x1.length : Int)) (by kernel_rfl) fun a hE => ?_
      refine st_pure hE rfl 58 rfl rfl (S y4.1) (by kernel_rfl) fun a hE => ?_
      refine st_pure hE rfl 59 rfl rfl (.int .i64 (y4.1.length : Int)) (by kernel_rfl) fun a hE => ?_
      refine st_pure hE rfl 60 rfl rfl (.int .i64 (w64 ((x1.length : Int) + (y4.1.length : Int)))) (by kernel_rfl) fun a hE => ?_
      refine st_pure hE rfl 61 rfl rfl (.bool (y7.2.1 == (w64 ((x1.length : Int) + (y4.1.length : Int))))) (by kernel_rfl) fun a hE => ?_
      refine st_pure hE rfl 62 rfl rfl (.bool (y7.2.1 == (w64 ((x1.length : Int) + (y4.1.length : Int))))) (by kernel_rfl) fun a hE => ?_
      have hE := hE.re (t := 62) rfl (congrArg Value.bool (and_t (e := (y7.2.1 == (w64 ((x1.length : Int) + (y4.1.length : Int))))) hb))
      exact st_nil (n_then ⟨hE.sel ⟨rfl, trivial⟩, hS⟩)
    · have hE := hE.bool (t := 54) rfl hb
      refine st_not hE rfl 55 rfl rfl fun a hE => ?_
      refine st_not hE rfl 56 rfl rfl fun a hE => ?_
      refine st_not hE rfl 57 rfl rfl fun a hE => ?_
      refine st_not hE rfl 58 rfl rfl fun a hE => ?_
      refine st_not hE rfl 59 rfl rfl fun a hE => ?_
      refine st_not hE rfl 60 rfl rfl fun a hE => ?_
      refine st_not hE rfl 61 rfl rfl fun a hE => ?_
      refine st_pure hE rfl 62 rfl rfl (.bool false) (by kernel_rfl) fun a hE => ?_
      have hE := hE.re (t := 62) rfl (congrArg Value.bool (and_f (e := (y7.2.1 == (w64 ((x1.length : Int) + (y4.1.length : Int))))) hb))
      exact st_nil (n_then ⟨hE.sel ⟨rfl, trivial⟩, hS⟩)
  rintro a w ⟨hE, hS⟩
  refine st_pure hE rfl 63 rfl rfl (.bool ((((y4.2 == 0) && (y7.2.2 == 0)) && (decide (y7.1 = x0))) && (y7.2.1 == (w64 ((x1.length : Int) + (y4.1.length : Int)))))) (by kernel_rfl) fun a hE => ?_
  obtain ⟨y8, h8, hF⟩ := bind_some hF
  refine st_cut 2 (fun a w => Env 66 a [(65, .bool y8)] ∧ Sep [] w0 w [.box b2 27 (api_Dir.enc y7.1), .box b1 27 (api_Dir.enc x0)]) ?_ ?_
  · rcases Bool.eq_false_or_eq_true ((((y4.2 == 0) && (y7.2.2 == 0)) && (decide (y7.1 = x0))) && (y7.2.1 == (w64 ((x1.length : Int) + (y4.1.length : Int))))) with hb | hb
    · have hE := hE.bool (t := 63) rfl hb
      have h8 := if_t h8 hb
      obtain ⟨y9, h9, h8⟩ := bind_some h8
      refine go_call hE rfl 64 rfl rfl 28 _ (by kernel_rfl) (W_law07_awake  _ h9 _ ) fun a v w hR hE => ?_
      obtain ⟨rfl, hq⟩ := hR
      have hS := hS.call hq rfl
      refine st_pure hE rfl 65 rfl rfl (.bool y9) (by kernel_rfl) fun a hE => ?_
      obtain rfl := Option.some.inj h8
      exact st_nil (n_then ⟨hE.sel ⟨rfl, trivial⟩, hS⟩)
    · have hE := hE.bool (t := 63) rfl hb
      have h8 := if_f h8 hb
      refine st_not hE rfl 64 rfl rfl fun a hE => ?_
      refine st_pure hE rfl 65 rfl rfl (.bool false) (by kernel_rfl) fun a hE => ?_
      obtain rfl := Option.some.inj h8
      exact st_nil (n_then ⟨hE.sel ⟨rfl, trivial⟩, hS⟩)
  rintro a w ⟨hE, hS⟩
  refine st_pure hE rfl 6 rfl rfl (.bool y8) (by kernel_rfl) fun a hE => ?_
  refine st_nil ?_
  refine n_then ?_
  refine wp_ret ?_
  obtain rfl := Option.some.inj hF
  exact out (rs := [.tmp 6]) (vs := [.bool y8]) rfl hE hS (.cons (.tmp rfl) .nil) ⟨rfl, hS.pick [] rfl rfl⟩
/-- filespace/stat.All -/
theorem W_stat_All (x0 : Str) (r : (List api_Dir) × Int) (hF : stat_All x0 = some r) (w0 : World)  : Ret Try.prog 38 #[S x0] w0 fun v w => ∃ (A0 : Option Addr) (c0 : Nat), v = .tuple #[.slice A0 r.1.length c0, .int .i64 r.2] ∧ Sep [] w0 w [.row 27 13 A0 r.1.length c0 (r.1.map api_Dir.enc)] := by
  refine enter Try.func38 rfl rfl rfl fun a hE => ?_
  have hS := Sep.start [] w0
  unfold stat_All at hF
  refine wp_seq ?_
  refine r_list ?_
  refine st_pure hE rfl 2 rfl rfl (.slice none 0 0) (by kernel_rfl) fun a hE => ?_
  refine st_pure hE rfl 3 rfl rfl (.int .i64 0) (by kernel_rfl) fun a hE => ?_
  refine st_nil ?_
  refine n_then ?_
  refine wp_seq ?_
  refine r_list ?_
  refine st_pure hE rfl 4 rfl rfl (.slice none 0 0) (by kernel_rfl) fun a hE => ?_
  refine st_nil ?_
  refine n_then ?_
  refine wp_seq ?_
  refine wp_seq ?_
  refine r_list ?_
  refine st_pure hE rfl 5 rfl rfl (.int .i64 0) (by kernel_rfl) fun a hE => ?_
  refine st_nil ?_
  refine n_then ?_
  obtain ⟨o1, g1, hF⟩ := bind_some hF
  refine w_meet (fun a w => ∃ s1, o1 = .fall s1 ∧ ∃ (A1 : Option Addr) (c1 : Nat), Env 29 a [(4, .slice A1 s1.length c1)] ∧ Sep [] w0 w [.row 27 13 A1 s1.length c1 (s1.map api_Dir.enc)]) ?_ ?_
  · refine wp_block ?_
    refine loop_rule g1 (fun (s1 : (List api_Dir) × Int) a w => ∃ (A2 : Option Addr) (c2 : Nat), Env 29 a [(0, S x0), (4, .slice A2 s1.1.length c2), (5, .int .i64 s1.2)] ∧ Sep [] w0 w [.row 27 13 A2 s1.1.length c2 (s1.1.map api_Dir.enc)]) ?_ ?_
    · have hS := hS.nil_row 27 13
      exact ⟨none, 0, hE.sel ⟨rfl, rfl, rfl, trivial⟩, hS.pick [0] rfl rfl⟩
    rintro s1 a w ⟨A2, c2, hE, hS⟩ st hB1 hD1
    unfold stat_All_L1 at hB1
    refine wp_seq ?_
    refine wp_seq ?_
    refine r_list ?_
    refine st_pure hE rfl 9 rfl rfl (.int .i64 s1.2) (by kernel_rfl) fun a hE => ?_
    refine st_pure hE rfl 10 rfl rfl (S x0) (by kernel_rfl) fun a hE => ?_
    refine st_pure hE rfl 11 rfl rfl (.int .i64 (x0.length : Int)) (by kernel_rfl) fun a hE => ?_
    refine st_pure hE rfl 12 rfl rfl (.bool (decide (s1.2 < (x0.length : Int)))) (by kernel_rfl) fun a hE => ?_
    refine st_nil ?_
    refine n_then ?_
    rcases (Bool.eq_false_or_eq_true (decide (s1.2 < (x0.length : Int)))).symm with hb | hb
    · have hB1 := if_f hB1 hb
      refine c_false hE rfl hb ?_
      refine wp_exit ?_
      refine e_then (e_then (e_in ?_))
      obtain rfl := Option.some.inj hB1
      have hd := hD1 _ rfl
      subst hd
      refine n_then ?_
      exact ⟨_, rfl, A2, c2, hE.sel ⟨rfl, trivial⟩, hS.pick [0] rfl rfl⟩
    have hB1 := if_t hB1 hb
    refine c_true hE rfl hb ?_
    refine wp_skip ?_
    refine n_then ?_
    refine wp_block ?_
    refine wp_seq ?_
    refine r_list ?_
    refine st_pure hE rfl 14 rfl rfl (S x0) (by kernel_rfl) fun a hE => ?_
    refine st_pure hE rfl 15 rfl rfl (.int .i64 s1.2) (by kernel_rfl) fun a hE => ?_
    obtain ⟨y1, h1, hB1⟩ := bind_some hB1
    refine go_call hE rfl 16 rfl rfl 33 _ (by kernel_rfl) (W_stat_Get x0 s1.2 _ h1 _ ) fun a v w hR hE => ?_
    obtain ⟨rfl, hq⟩ := hR
    have hS := hS.call hq rfl
    refine st_pure hE rfl 13 rfl rfl (.tuple #[.agg (api_Dir.enc y1.1).toArray, .int .i64 y1.2.1, .int .i64 y1.2.2]) (by kernel_rfl) fun a hE => ?_
    refine st_pure hE rfl 17 rfl rfl (.agg (api_Dir.enc y1.1).toArray) (by kernel_rfl) fun a hE => ?_
    refine st_pure hE rfl 18 rfl rfl (.int .i64 y1.2.1) (by kernel_rfl) fun a hE => ?_
    refine st_pure hE rfl 19 rfl rfl (.int .i64 y1.2.2) (by kernel_rfl) fun a hE => ?_
    refine go_box hE hS rfl 6 rfl rfl 27 (api_Dir.enc (api_Dir.mk 0 0 (api_Qid.mk 0 0 0) 0 0 0 0 [] [] [] [])) (fun _ => by kernel_rfl) fun a w b1 hx hE hS => ?_
    refine go_set (L' := [.box b1 27 (api_Dir.enc y1.1), .row 27 13 A2 s1.1.length c2 (s1.1.map api_Dir.enc)]) hE hS rfl rfl 0 rfl rfl rfl rfl (by kernel_rfl) (by kernel_rfl) (by kernel_rfl) (api_Dir.enc y1.1) (by kernel_rfl) rfl fun w hS => ?_
    refine st_pure hE rfl 7 rfl rfl (.int .i64 y1.2.1) (by kernel_rfl) fun a hE => ?_
    refine st_pure hE rfl 8 rfl rfl (.int .i64 y1.2.2) (by kernel_rfl) fun a hE => ?_
    refine st_nil ?_
    refine n_then ?_
    refine wp_seq ?_
    refine wp_seq ?_
    refine r_list ?_
    refine st_pure hE rfl 20 rfl rfl (.int .i64 y1.2.2) (by kernel_rfl) fun a hE => ?_
    refine st_pure hE rfl 21 rfl rfl (.bool (y1.2.2 != 0)) (by kernel_rfl) fun a hE => ?_
    refine st_nil ?_
    refine n_then ?_
    rcases Bool.eq_false_or_eq_true (y1.2.2 != 0) with hb | hb
    · have hB1 := if_t hB1 hb
      refine c_true hE rfl hb ?_
      refine wp_seq ?_
      refine r_list ?_
      refine st_pure hE rfl 22 rfl rfl (.int .i64 y1.2.2) (by kernel_rfl) fun a hE => ?_
      refine st_pure hE rfl 2 rfl rfl (.slice none 0 0) (by kernel_rfl) fun a hE => ?_
      refine st_pure hE rfl 3 rfl rfl (.int .i64 y1.2.2) (by kernel_rfl) fun a hE => ?_
      refine st_nil ?_
      refine n_then ?_
      refine wp_ret ?_
      obtain rfl := Option.some.inj hB1
      have hd := hD1 _ rfl
      subst hd
      obtain rfl := Option.some.inj hF
      refine r_then (r_in (r_then (r_in (r_then (r_then ?_)))))
      have hS := hS.nil_row 27 13
      exact out (rs := [.tmp 2, .tmp 3]) (vs := [.slice none 0 0, .int .i64 y1.2.2]) rfl hE hS (.cons (.tmp rfl) (.cons (.tmp rfl) .nil)) ⟨none, 0, rfl, hS.pick [0] rfl rfl⟩
    have hB1 := if_f hB1 hb
    refine c_false hE rfl hb ?_
    refine wp_skip ?_
    refine n_then ?_
    refine r_list ?_
    refine st_pure hE rfl 23 rfl rfl (.slice A2 s1.1.length c2) (by kernel_rfl) fun a hE => ?_
    refine st_run hE rfl 24 rfl rfl (.agg (api_Dir.enc y1.1).toArray) (ld_box hE hS 0 rfl rfl rfl (by kernel_rfl)) fun a hE => ?_
    refine go_slice hE hS rfl 25 rfl rfl 27 13 1 ([y1.1].map api_Dir.enc) (fun _ => by kernel_rfl) rfl (fun r hr => by obtain ⟨_, _, rfl⟩ := List.mem_map.1 hr; rfl) rfl fun a w A3 hx hE hS => ?_
    obtain ⟨y2, h2, hB1⟩ := bind_some hB1
    refine go_push (e := 27) (c := 13) (bytes := 136) (f := api_Dir.enc) (xs := s1.1) (ys := [y1.1]) hE hS rfl 26 rfl rfl 2 0 rfl (elemOK (by kernel_rfl) (by kernel_rfl)) rfl rfl rfl rfl .row (fun _ => rfl) (fun _ => rfl) rfl rfl h2 fun a w A4 c3 hE hS => ?_
    refine st_pure hE rfl 27 rfl rfl (.int .i64 y1.2.1) (by kernel_rfl) fun a hE => ?_
    refine st_pure hE rfl 4 rfl rfl (.slice A4 y2.length c3) (by kernel_rfl) fun a hE => ?_
    refine st_pure hE rfl 5 rfl rfl (.int .i64 y1.2.1) (by kernel_rfl) fun a hE => ?_
    refine st_nil ?_
    refine n_in ?_
    obtain rfl := Option.some.inj hB1
    refine n_then ?_
    exact ⟨_, rfl, A4, c3, hE.sel ⟨rfl, rfl, rfl, trivial⟩, hS.pick [2] rfl rfl⟩
  rintro a w ⟨s1, rfl, A1, c1, hE, hS⟩
  replace hF := hF
  refine n_then ?_
  refine wp_seq ?_
  refine r_list ?_
  refine st_pure hE rfl 28 rfl rfl (.slice A1 s1.length c1) (by kernel_rfl) fun a hE => ?_
  refine st_pure hE rfl 2 rfl rfl (.slice A1 s1.length c1) (by kernel_rfl) fun a hE => ?_
  refine st_pure hE rfl 3 rfl rfl (.int .i64 0) (by kernel_rfl) fun a hE => ?_
  refine st_nil ?_
  refine n_then ?_
  refine wp_ret ?_
  obtain rfl := Option.some.inj hF
  exact out (rs := [.tmp 2, .tmp 3]) (vs := [.slice A1 s1.length c1, .int .i64 0]) rfl hE hS (.cons (.tmp rfl) (.cons (.tmp rfl) .nil)) ⟨A1, c1, rfl, hS.pick [0] rfl rfl⟩
/-- filespace/filespaceref07.All -/
theorem W_ref07_All (x0 : Str) (r : (List api_Dir) × Int) (hF : ref07_All x0 = some r) (w0 : World)  : Ret Try.prog 39 #[S x0] w0 fun v w => ∃ (A0 : Option Addr) (c0 : Nat), v = .tuple #[.slice A0 r.1.length c0, .int .i64 r.2] ∧ Sep [] w0 w [.row 27 13 A0 r.1.length c0 (r.1.map api_Dir.enc)] := by
  refine enter Try.func39 rfl rfl rfl fun a hE => ?_
  have hS := Sep.start [] w0
  unfold ref07_All at hF
  refine wp_seq ?_
  refine r_list ?_
  refine st_pure hE rfl 2 rfl rfl (.slice none 0 0) (by kernel_rfl) fun a hE => ?_
  refine st_pure hE rfl 3 rfl rfl (.int .i64 0) (by kernel_rfl) fun a hE => ?_
  refine st_nil ?_
  refine n_then ?_
  refine wp_seq ?_
  refine r_list ?_
  refine st_pure hE rfl 4 rfl rfl (.slice none 0 0) (by kernel_rfl) fun a hE => ?_
  refine st_nil ?_
  refine n_then ?_
  refine wp_seq ?_
  refine wp_seq ?_
  refine r_list ?_
  refine st_pure hE rfl 5 rfl rfl (.int .i64 0) (by kernel_rfl) fun a hE => ?_
  refine st_nil ?_
  refine n_then ?_
  obtain ⟨o1, g1, hF⟩ := bind_some hF
  refine w_meet (fun a w => ∃ s1, o1 = .fall s1 ∧ ∃ (A1 : Option Addr) (c1 : Nat), Env 29 a [(4, .slice A1 s1.length c1)] ∧ Sep [] w0 w [.row 27 13 A1 s1.length c1 (s1.map api_Dir.enc)]) ?_ ?_
  · refine wp_block ?_
    refine loop_rule g1 (fun (s1 : (List api_Dir) × Int) a w => ∃ (A2 : Option Addr) (c2 : Nat), Env 29 a [(0, S x0), (4, .slice A2 s1.1.length c2), (5, .int .i64 s1.2)] ∧ Sep [] w0 w [.row 27 13 A2 s1.1.length c2 (s1.1.map api_Dir.enc)]) ?_ ?_
    · have hS := hS.nil_row 27 13
      exact ⟨none, 0, hE.sel ⟨rfl, rfl, rfl, trivial⟩, hS.pick [0] rfl rfl⟩
    rintro s1 a w ⟨A2, c2, hE, hS⟩ st hB1 hD1
    unfold ref07_All_L1 at hB1
    refine wp_seq ?_
    refine wp_seq ?_
    refine r_list ?_
    refine st_pure hE rfl 9 rfl rfl (.int .i64 s1.2) (by kernel_rfl) fun a hE => ?_
    refine st_pure hE rfl 10 rfl rfl (S x0) (by kernel_rfl) fun a hE => ?_
    refine st_pure hE rfl 11 rfl rfl (.int .i64 (x0.length : Int)) (by kernel_rfl) fun a hE => ?_
    refine st_pure hE rfl 12 rfl rfl (.bool (decide (s1.2 < (x0.length : Int)))) (by kernel_rfl) fun a hE => ?_
    refine st_nil ?_
    refine n_then ?_
    rcases (Bool.eq_false_or_eq_true (decide (s1.2 < (x0.length : Int)))).symm with hb | hb
    · have hB1 := if_f hB1 hb
      refine c_false hE rfl hb ?_
      refine wp_exit ?_
      refine e_then (e_then (e_in ?_))
      obtain rfl := Option.some.inj hB1
      have hd := hD1 _ rfl
      subst hd
      refine n_then ?_
      exact ⟨_, rfl, A2, c2, hE.sel ⟨rfl, trivial⟩, hS.pick [0] rfl rfl⟩
    have hB1 := if_t hB1 hb
    refine c_true hE rfl hb ?_
    refine wp_skip ?_
    refine n_then ?_
    refine wp_block ?_
    refine wp_seq ?_
    refine r_list ?_
    refine st_pure hE rfl 14 rfl rfl (S x0) (by kernel_rfl) fun a hE => ?_
    refine st_pure hE rfl 15 rfl rfl (.int .i64 s1.2) (by kernel_rfl) fun a hE => ?_
    obtain ⟨y1, h1, hB1⟩ := bind_some hB1
    refine go_call hE rfl 16 rfl rfl 34 _ (by kernel_rfl) (W_ref07_Get x0 s1.2 _ h1 _ ) fun a v w hR hE => ?_
    obtain ⟨rfl, hq⟩ := hR
    have hS := hS.call hq rfl
    refine st_pure hE rfl 13 rfl rfl (.tuple #[.agg (api_Dir.enc y1.1).toArray, .int .i64 y1.2.1, .int .i64 y1.2.2]) (by kernel_rfl) fun a hE => ?_
    refine st_pure hE rfl 17 rfl rfl (.agg (api_Dir.enc y1.1).toArray) (by kernel_rfl) fun a hE => ?_
    refine st_pure hE rfl 18 rfl rfl (.int .i64 y1.2.1) (by kernel_rfl) fun a hE => ?_
    refine st_pure hE rfl 19 rfl rfl (.int .i64 y1.2.2) (by kernel_rfl) fun a hE => ?_
    refine go_box hE hS rfl 6 rfl rfl 27 (api_Dir.enc (api_Dir.mk 0 0 (api_Qid.mk 0 0 0) 0 0 0 0 [] [] [] [])) (fun _ => by kernel_rfl) fun a w b1 hx hE hS => ?_
    refine go_set (L' := [.box b1 27 (api_Dir.enc y1.1), .row 27 13 A2 s1.1.length c2 (s1.1.map api_Dir.enc)]) hE hS rfl rfl 0 rfl rfl rfl rfl (by kernel_rfl) (by kernel_rfl) (by kernel_rfl) (api_Dir.enc y1.1) (by kernel_rfl) rfl fun w hS => ?_
    refine st_pure hE rfl 7 rfl rfl (.int .i64 y1.2.1) (by kernel_rfl) fun a hE => ?_
    refine st_pure hE rfl 8 rfl rfl (.int .i64 y1.2.2) (by kernel_rfl) fun a hE => ?_
    refine st_nil ?_
    refine n_then ?_
    refine wp_seq ?_
    refine wp_seq ?_
    refine r_list ?_
    refine st_pure hE rfl 20 rfl rfl (.int .i64 y1.2.2) (by kernel_rfl) fun a hE => ?_
    refine st_pure hE rfl 21 rfl rfl (.bool (y1.2.2 != 0)) (by kernel_rfl) fun a hE => ?_
    refine st_nil ?_
    refine n_then ?_
    rcases Bool.eq_false_or_eq_true (y1.2.2 != 0) with hb | hb
    · have hB1 := if_t hB1 hb
      refine c_true hE rfl hb ?_
      refine wp_seq ?_
      refine r_list ?_
      refine st_pure hE rfl 22 rfl rfl (.int .i64 y1.2.2) (by kernel_rfl) fun a hE => ?_
      refine st_pure hE rfl 2 rfl rfl (.slice none 0 0) (by kernel_rfl) fun a hE => ?_
      refine st_pure hE rfl 3 rfl rfl (.int .i64 y1.2.2) (by kernel_rfl) fun a hE => ?_
      refine st_nil ?_
      refine n_then ?_
      refine wp_ret ?_
      obtain rfl := Option.some.inj hB1
      have hd := hD1 _ rfl
      subst hd
      obtain rfl := Option.some.inj hF
      refine r_then (r_in (r_then (r_in (r_then (r_then ?_)))))
      have hS := hS.nil_row 27 13
      exact out (rs := [.tmp 2, .tmp 3]) (vs := [.slice none 0 0, .int .i64 y1.2.2]) rfl hE hS (.cons (.tmp rfl) (.cons (.tmp rfl) .nil)) ⟨none, 0, rfl, hS.pick [0] rfl rfl⟩
    have hB1 := if_f hB1 hb
    refine c_false hE rfl hb ?_
    refine wp_skip ?_
    refine n_then ?_
    refine wp_seq ?_
    refine r_list ?_
    refine st_pure hE rfl 23 rfl rfl (.slice A2 s1.1.length c2) (by kernel_rfl) fun a hE => ?_
    refine st_run hE rfl 24 rfl rfl (.agg (api_Dir.enc y1.1).toArray) (ld_box hE hS 0 rfl rfl rfl (by kernel_rfl)) fun a hE => ?_
    refine go_slice hE hS rfl 25 rfl rfl 27 13 1 ([y1.1].map api_Dir.enc) (fun _ => by kernel_rfl) rfl (fun r hr => by obtain ⟨_, _, rfl⟩ := List.mem_map.1 hr; rfl) rfl fun a w A3 hx hE hS => ?_
    obtain ⟨y2, h2, hB1⟩ := bind_some hB1
    refine go_push (e := 27) (c := 13) (bytes := 136) (f := api_Dir.enc) (xs := s1.1) (ys := [y1.1]) hE hS rfl 26 rfl rfl 2 0 rfl (elemOK (by kernel_rfl) (by kernel_rfl)) rfl rfl rfl rfl .row (fun _ => rfl) (fun _ => rfl) rfl rfl h2 fun a w A4 c3 hE hS => ?_
    refine st_pure hE rfl 4 rfl rfl (.slice A4 y2.length c3) (by kernel_rfl) fun a hE => ?_
    refine st_nil ?_
    refine n_then ?_
    refine r_list ?_
    refine st_pure hE rfl 27 rfl rfl (.int .i64 y1.2.1) (by kernel_rfl) fun a hE => ?_
    refine st_pure hE rfl 5 rfl rfl (.int .i64 y1.2.1) (by kernel_rfl) fun a hE => ?_
    refine st_nil ?_
    refine n_in ?_
    obtain rfl := Option.some.inj hB1
    refine n_then ?_
    exact ⟨_, rfl, A4, c3, hE.sel ⟨rfl, rfl, rfl, trivial⟩, hS.pick [2] rfl rfl⟩
  rintro a w ⟨s1, rfl, A1, c1, hE, hS⟩
  replace hF := hF
  refine n_then ?_
  refine wp_seq ?_
  refine r_list ?_
  refine st_pure hE rfl 28 rfl rfl (.slice A1 s1.length c1) (by kernel_rfl) fun a hE => ?_
  refine st_pure hE rfl 2 rfl rfl (.slice A1 s1.length c1) (by kernel_rfl) fun a hE => ?_
  refine st_pure hE rfl 3 rfl rfl (.int .i64 0) (by kernel_rfl) fun a hE => ?_
  refine st_nil ?_
  refine n_then ?_
  refine wp_ret ?_
  obtain rfl := Option.some.inj hF
  exact out (rs := [.tmp 2, .tmp 3]) (vs := [.slice A1 s1.length c1, .int .i64 0]) rfl hE hS (.cons (.tmp rfl) (.cons (.tmp rfl) .nil)) ⟨A1, c1, rfl, hS.pick [0] rfl rfl⟩
/-- filespace/filespacelaw07.equal -/
theorem W_law07_equal (x0 : List api_Dir) (x1 : List api_Dir) (r : Bool) (hF : law07_equal x0 x1 = some r) (w0 : World) {a0 : Option Addr} {k0 : Nat} {F0 : Nat → Prop} (hs0 : In F0 13 a0 x0.length k0 (x0.map api_Dir.enc) w0) {a1 : Option Addr} {k1 : Nat} {F1 : Nat → Prop} (hs1 : In F1 13 a1 x1.length k1 (x1.map api_Dir.enc) w0) : Ret Try.prog 40 #[.slice a0 x0.length k0, .slice a1 x1.length k1] w0 fun v w => v = .bool r ∧ Sep [] w0 w [] := by
  refine enter Try.func40 rfl rfl rfl fun a hE => ?_
  have hS := Sep.start [] w0
  have hS := hS.lent hs0
  have hS := hS.lent hs1
  unfold law07_equal at hF
  refine wp_seq ?_
  refine r_list ?_
  refine st_pure hE rfl 4 rfl rfl (.bool false) (by kernel_rfl) fun a hE => ?_
  refine st_nil ?_
  refine n_then ?_
  refine wp_seq ?_
  refine wp_seq ?_
  refine r_list ?_
  refine st_pure hE rfl 6 rfl rfl (.slice a0 x0.length k0) (by kernel_rfl) fun a hE => ?_
  refine st_pure hE rfl 7 rfl rfl (.int .i64 (x0.length : Int)) (by kernel_rfl) fun a hE => ?_
  refine st_pure hE rfl 8 rfl rfl (.slice a1 x1.length k1) (by kernel_rfl) fun a hE => ?_
  refine st_pure hE rfl 9 rfl rfl (.int .i64 (x1.length : Int)) (by kernel_rfl) fun a hE => ?_
  refine st_pure hE rfl 10 rfl rfl (.bool ((x0.length : Int) != (x1.length : Int))) (by kernel_rfl) fun a hE => ?_
  refine st_nil ?_
  refine n_then ?_
  rcases Bool.eq_false_or_eq_true ((x0.length : Int) != (x1.length : Int)) with hb | hb
  · have hF := if_t hF hb
    refine c_true hE rfl hb ?_
    refine wp_seq ?_
    refine r_list ?_
    refine st_pure hE rfl 4 rfl rfl (.bool false) (by kernel_rfl) fun a hE => ?_
    refine st_nil ?_
    refine n_then ?_
    refine wp_ret ?_
    obtain rfl := Option.some.inj hF
    refine r_then ?_
    exact out (rs := [.tmp 4]) (vs := [.bool false]) rfl hE hS (.cons (.tmp rfl) .nil) ⟨rfl, hS.pick [] rfl rfl⟩
  have hF := if_f hF hb
  refine c_false hE rfl hb ?_
  refine wp_skip ?_
  refine n_then ?_
  refine wp_seq ?_
  refine wp_seq ?_
  refine r_list ?_
  refine st_pure hE rfl 11 rfl rfl (.slice a0 x0.length k0) (by kernel_rfl) fun a hE => ?_
  refine st_pure hE rfl 12 rfl rfl (.int .i64 (x0.length : Int)) (by kernel_rfl) fun a hE => ?_
  refine st_pure hE rfl 13 rfl rfl (.int .i64 0) (by kernel_rfl) fun a hE => ?_
  refine st_nil ?_
  refine n_then ?_
  obtain ⟨o1, g1, hF⟩ := bind_some hF
  refine w_meet (fun a w => ∃ s1, o1 = .fall s1 ∧ Env 26 a [] ∧ Sep [] w0 w []) ?_ ?_
  · refine wp_block ?_
    refine loop_rule g1 (fun (s1 : Int) a w => Env 26 a [(0, .slice a0 x0.length k0), (1, .slice a1 x1.length k1), (12, .int .i64 (x0.length : Int)), (13, .int .i64 s1)] ∧ Sep [] w0 w [.ro F0 (Rd F0 13 a0 x0.length k0 (x0.map api_Dir.enc)), .ro F1 (Rd F1 13 a1 x1.length k1 (x1.map api_Dir.enc))]) ?_ ?_
    · exact ⟨hE.sel ⟨rfl, rfl, rfl, rfl, trivial⟩, hS.pick [1, 0] rfl rfl⟩
    rintro s1 a w ⟨hE, hS⟩ st hB1 hD1
    unfold law07_equal_L1 at hB1
    refine wp_seq ?_
    refine r_list ?_
    refine st_pure hE rfl 14 rfl rfl (.bool (decide (s1 < (x0.length : Int)))) (by kernel_rfl) fun a hE => ?_
    refine st_nil ?_
    refine n_then ?_
    refine wp_seq ?_
    rcases (Bool.eq_false_or_eq_true (decide (s1 < (x0.length : Int)))).symm with hb | hb
    · have hB1 := if_f hB1 hb
      refine c_false hE rfl hb ?_
      refine wp_exit ?_
      refine e_then (e_then (e_in ?_))
      obtain rfl := Option.some.inj hB1
      have hd := hD1 _ rfl
      subst hd
      refine n_then ?_
      exact ⟨_, rfl, hE.sel trivial, hS.pick [] rfl rfl⟩
    have hB1 := if_t hB1 hb
    refine c_true hE rfl hb ?_
    refine wp_skip ?_
    refine n_then ?_
    refine wp_seq ?_
    refine wp_block ?_
    refine wp_seq ?_
    refine r_list ?_
    refine st_pure hE rfl 15 rfl rfl (.int .i64 s1) (by kernel_rfl) fun a hE => ?_
    refine st_pure hE rfl 5 rfl rfl (.int .i64 s1) (by kernel_rfl) fun a hE => ?_
    refine st_nil ?_
    refine n_then ?_
    refine wp_seq ?_
    refine r_mix [] [(0, false), (1, false), (2, false), (3, false), (4, false), (5, false), (6, false), (7, false), (8, false)] rfl (by kernel_rfl) ?_
    have hW := hS
    have hX := hS.now
    refine mx_pure hE rfl rfl 16 rfl rfl (.slice a0 x0.length k0) (by kernel_rfl) fun a hE => ?_
    refine mx_pure hE rfl rfl 17 rfl rfl (.int .i64 s1) (by kernel_rfl) fun a hE => ?_
    obtain ⟨y1, h1, hB1⟩ := bind_some hB1
    refine mx_at (e := 27) (c := 13) hE hW rfl rfl 18 rfl rfl 0 rfl (by kernel_rfl) (by kernel_rfl) rfl rfl rfl .ro rfl h1 fun a b1 p1 hA1 hE => ?_
    refine mx_run hE rfl rfl 19 rfl rfl (.agg (api_Dir.enc y1).toArray) (fun w hx => ld_elem (k := 0) (f := api_Dir.enc) (j := 0) hE (hW.ext hx) rfl rfl rfl .ro hA1 h1 rfl (by kernel_rfl)) fun a hE => ?_
    refine mx_pure hE rfl rfl 20 rfl rfl (.slice a1 x1.length k1) (by kernel_rfl) fun a hE => ?_
    refine mx_pure hE rfl rfl 21 rfl rfl (.int .i64 s1) (by kernel_rfl) fun a hE => ?_
    obtain ⟨y2, h2, hB1⟩ := bind_some hB1
    refine mx_at (e := 27) (c := 13) hE hW rfl rfl 22 rfl rfl 1 rfl (by kernel_rfl) (by kernel_rfl) rfl rfl rfl .ro rfl h2 fun a b2 p2 hA2 hE => ?_
    refine mx_run hE rfl rfl 23 rfl rfl (.agg (api_Dir.enc y2).toArray) (fun w hx => ld_elem (k := 1) (f := api_Dir.enc) (j := 0) hE (hW.ext hx) rfl rfl rfl .ro hA2 h2 rfl (by kernel_rfl)) fun a hE => ?_
    refine mx_run hE rfl rfl 24 rfl rfl (.bool (!(decide (y1 = y2)))) (fun w hx => run_agg_neq rfl (hE.eval rfl) (hE.eval rfl) (api_Dir_eqIs _ _)) fun a hE => ?_
    refine mx_nil fun w hx => ?_
    have hS := hS.ext hx
    refine n_then ?_
    rcases Bool.eq_false_or_eq_true (!(decide (y1 = y2))) with hb | hb
    · have hB1 := if_t hB1 hb
      refine c_true hE rfl hb ?_
      refine wp_seq ?_
      refine r_list ?_
      refine st_pure hE rfl 4 rfl rfl (.bool false) (by kernel_rfl) fun a hE => ?_
      refine st_nil ?_
      refine n_then ?_
      refine wp_ret ?_
      obtain rfl := Option.some.inj hB1
      have hd := hD1 _ rfl
      subst hd
      obtain rfl := Option.some.inj hF
      refine r_in (r_then (r_then (r_in (r_then (r_then ?_)))))
      exact out (rs := [.tmp 4]) (vs := [.bool false]) rfl hE hS (.cons (.tmp rfl) .nil) ⟨rfl, hS.pick [] rfl rfl⟩
    have hB1 := if_f hB1 hb
    refine c_false hE rfl hb ?_
    refine wp_skip ?_
    refine n_in ?_
    refine n_then ?_
    refine r_list ?_
    refine st_pure hE rfl 25 rfl rfl (.int .i64 (w64 (s1 + 1))) (by kernel_rfl) fun a hE => ?_
    refine st_pure hE rfl 13 rfl rfl (.int .i64 (w64 (s1 + 1))) (by kernel_rfl) fun a hE => ?_
    refine st_nil ?_
    obtain rfl := Option.some.inj hB1
    refine n_then ?_
    exact ⟨_, rfl, hE.sel ⟨rfl, rfl, rfl, rfl, trivial⟩, hS.pick [0, 1] rfl rfl⟩
  rintro a w ⟨s1, rfl, hE, hS⟩
  replace hF := hF
  refine n_then ?_
  refine wp_seq ?_
  refine r_list ?_
  refine st_pure hE rfl 4 rfl rfl (.bool true) (by kernel_rfl) fun a hE => ?_
  refine st_nil ?_
  refine n_then ?_
  refine wp_ret ?_
  obtain rfl := Option.some.inj hF
  exact out (rs := [.tmp 4]) (vs := [.bool true]) rfl hE hS (.cons (.tmp rfl) .nil) ⟨rfl, hS.pick [] rfl rfl⟩
/-- filespace/filespacelaw07.StatLists -/
theorem W_law07_StatLists (x0 : Str) (r : Bool) (hF : law07_StatLists x0 = some r) (w0 : World)  : Ret Try.prog 13 #[S x0] w0 fun v w => v = .bool r ∧ Sep [] w0 w [] := by
  refine enter Try.func13 rfl rfl rfl fun a hE => ?_
  have hS := Sep.start [] w0
  unfold law07_StatLists at hF
  refine wp_seq ?_
  refine r_list ?_
  refine st_pure hE rfl 2 rfl rfl (.bool false) (by kernel_rfl) fun a hE => ?_
  refine st_nil ?_
  refine n_then ?_
  refine wp_seq ?_
  refine wp_seq ?_
  refine r_list ?_
  refine st_pure hE rfl 7 rfl rfl (S x0) (by kernel_rfl) fun a hE => ?_
  refine st_pure hE rfl 8 rfl rfl (.int .i64 (x0.length : Int)) (by kernel_rfl) fun a hE => ?_
  refine st_pure hE rfl 9 rfl rfl (.bool (decide ((x0.length : Int) > 5000))) (by kernel_rfl) fun a hE => ?_
  refine st_nil ?_
  refine n_then ?_
  rcases Bool.eq_false_or_eq_true (decide ((x0.length : Int) > 5000)) with hb | hb
  · have hF := if_t hF hb
    refine c_true hE rfl hb ?_
    refine wp_seq ?_
    refine r_list ?_
    obtain ⟨y1, h1, hF⟩ := bind_some hF
    refine go_call hE rfl 10 rfl rfl 28 _ (by kernel_rfl) (W_law07_awake  _ h1 _ ) fun a v w hR hE => ?_
    obtain ⟨rfl, hq⟩ := hR
    have hS := hS.call hq rfl
    refine st_pure hE rfl 2 rfl rfl (.bool y1) (by kernel_rfl) fun a hE => ?_
    refine st_nil ?_
    refine n_then ?_
    refine wp_ret ?_
    obtain rfl := Option.some.inj hF
    refine r_then ?_
    exact out (rs := [.tmp 2]) (vs := [.bool y1]) rfl hE hS (.cons (.tmp rfl) .nil) ⟨rfl, hS.pick [] rfl rfl⟩
  have hF := if_f hF hb
  refine c_false hE rfl hb ?_
  refine wp_skip ?_
  refine n_then ?_
  refine wp_seq ?_
  refine r_list ?_
  refine st_pure hE rfl 12 rfl rfl (S x0) (by kernel_rfl) fun a hE => ?_
  obtain ⟨y2, h2, hF⟩ := bind_some hF
  refine go_call hE rfl 13 rfl rfl 38 _ (by kernel_rfl) (W_stat_All x0 _ h2 _ ) fun a v w hR hE => ?_
  obtain ⟨A1, c1, rfl, hq⟩ := hR
  have hS := hS.call hq rfl
  refine st_pure hE rfl 11 rfl rfl (.tuple #[.slice A1 y2.1.length c1, .int .i64 y2.2]) (by kernel_rfl) fun a hE => ?_
  refine st_pure hE rfl 14 rfl rfl (.slice A1 y2.1.length c1) (by kernel_rfl) fun a hE => ?_
  refine st_pure hE rfl 15 rfl rfl (.int .i64 y2.2) (by kernel_rfl) fun a hE => ?_
  refine st_pure hE rfl 3 rfl rfl (.slice A1 y2.1.length c1) (by kernel_rfl) fun a hE => ?_
  refine st_pure hE rfl 4 rfl rfl (.int .i64 y2.2) (by kernel_rfl) fun a hE => ?_
  refine st_nil ?_
  refine n_then ?_
  refine wp_seq ?_
  refine r_list ?_
  refine st_pure hE rfl 17 rfl rfl (S x0) (by kernel_rfl) fun a hE => ?_
  obtain ⟨y3, h3, hF⟩ := bind_some hF
  refine go_call hE rfl 18 rfl rfl 39 _ (by kernel_rfl) (W_ref07_All x0 _ h3 _ ) fun a v w hR hE => ?_
  obtain ⟨A2, c2, rfl, hq⟩ := hR
  have hS := hS.call hq rfl
  refine st_pure hE rfl 16 rfl rfl (.tuple #[.slice A2 y3.1.length c2, .int .i64 y3.2]) (by kernel_rfl) fun a hE => ?_
  refine st_pure hE rfl 19 rfl rfl (.slice A2 y3.1.length c2) (by kernel_rfl) fun a hE => ?_
  refine st_pure hE rfl 20 rfl rfl (.int .i64 y3.2) (by kernel_rfl) fun a hE => ?_
  refine st_pure hE rfl 5 rfl rfl (.slice A2 y3.1.length c2) (by kernel_rfl) fun a hE => ?_
  refine st_pure hE rfl 6 rfl rfl (.int .i64 y3.2) (by kernel_rfl) fun a hE => ?_
  refine st_nil ?_
  refine n_then ?_
  refine wp_seq ?_
  refine r_list ?_
  refine st_pure hE rfl 21 rfl rfl (.slice A1 y2.1.length c1) (by kernel_rfl) fun a hE => ?_
  refine st_pure hE rfl 22 rfl rfl (.slice A2 y3.1.length c2) (by kernel_rfl) fun a hE => ?_
  obtain ⟨y4, h4, hF⟩ := bind_some hF
  refine go_call hE rfl 23 rfl rfl 40 _ (by kernel_rfl) (W_law07_equal y2.1 y3.1 _ h4 _ (hS.in_ (i := 1) rfl .row) (hS.in_ (i := 0) rfl .row)) fun a v w hR hE => ?_
  obtain ⟨rfl, hq⟩ := hR
  have hS := hS.call hq rfl
  refine st_pure hE rfl 24 rfl rfl (.bool y4) (by kernel_rfl) fun a hE => ?_
  refine st_cut 4 (fun a w => Env 32 a [(28, .bool (y4 && (y2.2 == y3.2)))] ∧ Sep [] w0 w [.row 27 13 A2 y3.1.length c2 (y3.1.map api_Dir.enc), .row 27 13 A1 y2.1.length c1 (y2.1.map api_Dir.enc)]) ?_ ?_
  · rcases Bool.eq_false_or_eq_true y4 with hb | hb
    · have hE := hE.bool (t := 24) rfl hb
      refine st_pure hE rfl 25 rfl rfl (.int .i64 y2.2) (by kernel_rfl) fun a hE => ?_
      refine st_pure hE rfl 26 rfl rfl (.int .i64 y3.2) (by kernel_rfl) fun a hE => ?_
      refine st_pure hE rfl 27 rfl rfl (.bool (y2.2 == y3.2)) (by kernel_rfl) fun a hE => ?_
      refine st_pure hE rfl 28 rfl rfl (.bool (y2.2 == y3.2)) (by kernel_rfl) fun a hE => ?_
      have hE := hE.re (t := 28) rfl (congrArg Value.bool (and_t (e := (y2.2 == y3.2)) hb))
      exact st_nil (n_then ⟨hE.sel ⟨rfl, trivial⟩, hS⟩)
    · have hE := hE.bool (t := 24) rfl hb
      refine st_not hE rfl 25 rfl rfl fun a hE => ?_
      refine st_not hE rfl 26 rfl rfl fun a hE => ?_
      refine st_not hE rfl 27 rfl rfl fun a hE => ?_
      refine st_pure hE rfl 28 rfl rfl (.bool false) (by kernel_rfl) fun a hE => ?_
      have hE := hE.re (t := 28) rfl (congrArg Value.bool (and_f (e := (y2.2 == y3.2)) hb))
      exact st_nil (n_then ⟨hE.sel ⟨rfl, trivial⟩, hS⟩)
  rintro a w ⟨hE, hS⟩
  refine st_pure hE rfl 29 rfl rfl (.bool (y4 && (y2.2 == y3.2))) (by kernel_rfl) fun a hE => ?_
  obtain ⟨y5, h5, hF⟩ := bind_some hF
  refine st_cut 2 (fun a w => Env 32 a [(31, .bool y5)] ∧ Sep [] w0 w [.row 27 13 A2 y3.1.length c2 (y3.1.map api_Dir.enc), .row 27 13 A1 y2.1.length c1 (y2.1.map api_Dir.enc)]) ?_ ?_
  · rcases Bool.eq_false_or_eq_true (y4 && (y2.2 == y3.2)) with hb | hb
    · have hE := hE.bool (t := 29) rfl hb
      have h5 := if_t h5 hb
      obtain ⟨y6, h6, h5⟩ := bind_some h5
      refine go_call hE rfl 30 rfl rfl 28 _ (by kernel_rfl) (W_law07_awake  _ h6 _ ) fun a v w hR hE => ?_
      obtain ⟨rfl, hq⟩ := hR
      have hS := hS.call hq rfl
      refine st_pure hE rfl 31 rfl rfl (.bool y6) (by kernel_rfl) fun a hE => ?_
      obtain rfl := Option.some.inj h5
      exact st_nil (n_then ⟨hE.sel ⟨rfl, trivial⟩, hS⟩)
    · have hE := hE.bool (t := 29) rfl hb
      have h5 := if_f h5 hb
      refine st_not hE rfl 30 rfl rfl fun a hE => ?_
      refine st_pure hE rfl 31 rfl rfl (.bool false) (by kernel_rfl) fun a hE => ?_
      obtain rfl := Option.some.inj h5
      exact st_nil (n_then ⟨hE.sel ⟨rfl, trivial⟩, hS⟩)
  rintro a w ⟨hE, hS⟩
  refine st_pure hE rfl 2 rfl rfl (.bool y5) (by kernel_rfl) fun a hE => ?_
  refine st_nil ?_
  refine n_then ?_
  refine wp_ret ?_
  obtain rfl := Option.some.inj hF
  exact out (rs := [.tmp 2]) (vs := [.bool y5]) rfl hE hS (.cons (.tmp rfl) .nil) ⟨rfl, hS.pick [] rfl rfl⟩
/-- filespace/filespacelaw07.StatJoins -/
theorem W_law07_StatJoins (x0 : List api_Dir) (r : Bool) (hF : law07_StatJoins x0 = some r) (w0 : World) {a0 : Option Addr} {k0 : Nat} {F0 : Nat → Prop} (hs0 : In F0 13 a0 x0.length k0 (x0.map api_Dir.enc) w0) : Ret Try.prog 14 #[.slice a0 x0.length k0] w0 fun v w => v = .bool r ∧ Sep [] w0 w [] := by
  refine enter Try.func14 rfl rfl rfl fun a hE => ?_
  have hS := Sep.start [] w0
  have hS := hS.lent hs0
  unfold law07_StatJoins at hF
  refine wp_seq ?_
  refine r_list ?_
  refine st_pure hE rfl 2 rfl rfl (.bool false) (by kernel_rfl) fun a hE => ?_
  refine st_nil ?_
  refine n_then ?_
  refine wp_seq ?_
  refine wp_seq ?_
  refine r_list ?_
  refine st_pure hE rfl 9 rfl rfl (.slice a0 x0.length k0) (by kernel_rfl) fun a hE => ?_
  refine st_pure hE rfl 10 rfl rfl (.int .i64 (x0.length : Int)) (by kernel_rfl) fun a hE => ?_
  refine st_pure hE rfl 11 rfl rfl (.bool (decide ((x0.length : Int) > 20))) (by kernel_rfl) fun a hE => ?_
  refine st_nil ?_
  refine n_then ?_
  rcases Bool.eq_false_or_eq_true (decide ((x0.length : Int) > 20)) with hb | hb
  · have hF := if_t hF hb
    refine c_true hE rfl hb ?_
    refine wp_seq ?_
    refine r_list ?_
    obtain ⟨y1, h1, hF⟩ := bind_some hF
    refine go_call hE rfl 12 rfl rfl 28 _ (by kernel_rfl) (W_law07_awake  _ h1 _ ) fun a v w hR hE => ?_
    obtain ⟨rfl, hq⟩ := hR
    have hS := hS.call hq rfl
    refine st_pure hE rfl 2 rfl rfl (.bool y1) (by kernel_rfl) fun a hE => ?_
    refine st_nil ?_
    refine n_then ?_
    refine wp_ret ?_
    obtain rfl := Option.some.inj hF
    refine r_then ?_
    exact out (rs := [.tmp 2]) (vs := [.bool y1]) rfl hE hS (.cons (.tmp rfl) .nil) ⟨rfl, hS.pick [] rfl rfl⟩
  have hF := if_f hF hb
  refine c_false hE rfl hb ?_
  refine wp_skip ?_
  refine n_then ?_
  refine wp_seq ?_
  refine r_list ?_
  refine st_pure hE rfl 3 rfl rfl (S []) (by kernel_rfl) fun a hE => ?_
  refine st_nil ?_
  refine n_then ?_
  refine wp_seq ?_
  refine wp_seq ?_
  refine r_list ?_
  refine st_pure hE rfl 13 rfl rfl (.slice a0 x0.length k0) (by kernel_rfl) fun a hE => ?_
  refine st_pure hE rfl 14 rfl rfl (.int .i64 (x0.length : Int)) (by kernel_rfl) fun a hE => ?_
  refine st_pure hE rfl 15 rfl rfl (.int .i64 0) (by kernel_rfl) fun a hE => ?_
  refine st_nil ?_
  refine n_then ?_
  obtain ⟨o1, g1, hF⟩ := bind_some hF
  refine w_meet (fun a w => ∃ s1, o1 = .fall s1 ∧ Env 59 a [(0, .slice a0 x0.length k0), (3, S s1)] ∧ Sep [] w0 w [.ro F0 (Rd F0 13 a0 x0.length k0 (x0.map api_Dir.enc))]) ?_ ?_
  · refine wp_block ?_
    refine loop_rule g1 (fun (s1 : Str × Int) a w => Env 59 a [(0, .slice a0 x0.length k0), (3, S s1.1), (14, .int .i64 (x0.length : Int)), (15, .int .i64 s1.2)] ∧ Sep [] w0 w [.ro F0 (Rd F0 13 a0 x0.length k0 (x0.map api_Dir.enc))]) ?_ ?_
    · exact ⟨hE.sel ⟨rfl, rfl, rfl, rfl, trivial⟩, hS.pick [0] rfl rfl⟩
    rintro s1 a w ⟨hE, hS⟩ st hB1 hD1
    unfold law07_StatJoins_L1 at hB1
    refine wp_seq ?_
    refine r_list ?_
    refine st_pure hE rfl 16 rfl rfl (.bool (decide (s1.2 < (x0.length : Int)))) (by kernel_rfl) fun a hE => ?_
    refine st_nil ?_
    refine n_then ?_
    refine wp_seq ?_
    rcases (Bool.eq_false_or_eq_true (decide (s1.2 < (x0.length : Int)))).symm with hb | hb
    · have hB1 := if_f hB1 hb
      refine c_false hE rfl hb ?_
      refine wp_exit ?_
      refine e_then (e_then (e_in ?_))
      obtain rfl := Option.some.inj hB1
      have hd := hD1 _ rfl
      subst hd
      refine n_then ?_
      exact ⟨_, rfl, hE.sel ⟨rfl, rfl, trivial⟩, hS.pick [0] rfl rfl⟩
    have hB1 := if_t hB1 hb
    refine c_true hE rfl hb ?_
    refine wp_skip ?_
    refine n_then ?_
    refine wp_seq ?_
    refine wp_block ?_
    refine wp_seq ?_
    refine r_list ?_
    refine st_pure hE rfl 17 rfl rfl (.int .i64 s1.2) (by kernel_rfl) fun a hE => ?_
    refine st_pure hE rfl 4 rfl rfl (.int .i64 s1.2) (by kernel_rfl) fun a hE => ?_
    refine st_nil ?_
    refine n_then ?_
    refine wp_seq ?_
    refine wp_seq ?_
    refine r_list ?_
    refine st_pure hE rfl 18 rfl rfl (.slice a0 x0.length k0) (by kernel_rfl) fun a hE => ?_
    refine st_pure hE rfl 19 rfl rfl (.int .i64 s1.2) (by kernel_rfl) fun a hE => ?_
    obtain ⟨y2, h2, hB1⟩ := bind_some hB1
    refine go_at (e := 27) (c := 13) hE hS rfl 20 rfl rfl 0 rfl (by kernel_rfl) (by kernel_rfl) rfl rfl rfl .ro rfl h2 fun a b1 p1 hA1 hE => ?_
    refine st_run hE rfl 21 rfl rfl (.agg (api_Dir.enc y2).toArray) (ld_elem (k := 0) (f := api_Dir.enc) (j := 0) hE hS rfl rfl rfl .ro hA1 h2 rfl (by kernel_rfl)) fun a hE => ?_
    obtain ⟨y3, h3, hB1⟩ := bind_some hB1
    refine go_call hE rfl 22 rfl rfl 30 _ (by kernel_rfl) (W_ref07_Check y2 _ h3 _ ) fun a v w hR hE => ?_
    obtain ⟨rfl, hq⟩ := hR
    have hS := hS.call hq rfl
    refine st_pure hE rfl 23 rfl rfl (.bool (y3 != 0)) (by kernel_rfl) fun a hE => ?_
    refine st_nil ?_
    refine n_then ?_
    rcases Bool.eq_false_or_eq_true (y3 != 0) with hb | hb
    · have hB1 := if_t hB1 hb
      refine c_true hE rfl hb ?_
      refine wp_seq ?_
      refine r_list ?_
      obtain ⟨y4, h4, hB1⟩ := bind_some hB1
      refine go_call hE rfl 24 rfl rfl 28 _ (by kernel_rfl) (W_law07_awake  _ h4 _ ) fun a v w hR hE => ?_
      obtain ⟨rfl, hq⟩ := hR
      have hS := hS.call hq rfl
      refine st_pure hE rfl 2 rfl rfl (.bool y4) (by kernel_rfl) fun a hE => ?_
      refine st_nil ?_
      refine n_then ?_
      refine wp_ret ?_
      obtain rfl := Option.some.inj hB1
      have hd := hD1 _ rfl
      subst hd
      obtain rfl := Option.some.inj hF
      refine r_then (r_in (r_then (r_then (r_in (r_then (r_then ?_))))))
      exact out (rs := [.tmp 2]) (vs := [.bool y4]) rfl hE hS (.cons (.tmp rfl) .nil) ⟨rfl, hS.pick [] rfl rfl⟩
    have hB1 := if_f hB1 hb
    refine c_false hE rfl hb ?_
    refine wp_skip ?_
    refine n_then ?_
    refine wp_seq ?_
    refine r_list ?_
    refine st_pure hE rfl 26 rfl rfl (.slice a0 x0.length k0) (by kernel_rfl) fun a hE => ?_
    refine st_pure hE rfl 27 rfl rfl (.int .i64 s1.2) (by kernel_rfl) fun a hE => ?_
    obtain ⟨y5, h5, hB1⟩ := bind_some hB1
    refine go_at (e := 27) (c := 13) hE hS rfl 28 rfl rfl 0 rfl (by kernel_rfl) (by kernel_rfl) rfl rfl rfl .ro rfl h5 fun a b2 p2 hA2 hE => ?_
    refine st_run hE rfl 29 rfl rfl (.agg (api_Dir.enc y5).toArray) (ld_elem (k := 0) (f := api_Dir.enc) (j := 0) hE hS rfl rfl rfl .ro hA2 h5 rfl (by kernel_rfl)) fun a hE => ?_
    obtain ⟨y6, h6, hB1⟩ := bind_some hB1
    refine go_call hE rfl 30 rfl rfl 31 _ (by kernel_rfl) (W_stat_Put y5 _ h6 _ ) fun a v w hR hE => ?_
    obtain ⟨rfl, hq⟩ := hR
    have hS := hS.call hq rfl
    refine st_pure hE rfl 25 rfl rfl (.tuple #[S y6.1, .int .i64 y6.2]) (by kernel_rfl) fun a hE => ?_
    refine st_pure hE rfl 31 rfl rfl (S y6.1) (by kernel_rfl) fun a hE => ?_
    refine st_pure hE rfl 32 rfl rfl (.int .i64 y6.2) (by kernel_rfl) fun a hE => ?_
    refine st_pure hE rfl 5 rfl rfl (S y6.1) (by kernel_rfl) fun a hE => ?_
    refine st_pure hE rfl 6 rfl rfl (.int .i64 y6.2) (by kernel_rfl) fun a hE => ?_
    refine st_nil ?_
    refine n_then ?_
    refine wp_seq ?_
    refine wp_seq ?_
    refine r_list ?_
    refine st_pure hE rfl 33 rfl rfl (.int .i64 y6.2) (by kernel_rfl) fun a hE => ?_
    refine st_pure hE rfl 34 rfl rfl (.bool (y6.2 != 0)) (by kernel_rfl) fun a hE => ?_
    refine st_pure hE rfl 35 rfl rfl (.bool (y6.2 != 0)) (by kernel_rfl) fun a hE => ?_
    refine st_cut 4 (fun a w => Env 59 a [(39, .bool ((y6.2 != 0) || (decide ((y6.1.length : Int) > 400)))), (0, .slice a0 x0.length k0), (3, S s1.1), (5, S y6.1), (14, .int .i64 (x0.length : Int)), (15, .int .i64 s1.2)] ∧ Sep [] w0 w [.ro F0 (Rd F0 13 a0 x0.length k0 (x0.map api_Dir.enc))]) ?_ ?_
    · rcases Bool.eq_false_or_eq_true (y6.2 != 0) with hb | hb
      · have hE := hE.bool (t := 35) rfl hb
        refine st_not hE rfl 36 rfl rfl fun a hE => ?_
        refine st_not hE rfl 37 rfl rfl fun a hE => ?_
        refine st_not hE rfl 38 rfl rfl fun a hE => ?_
        refine st_pure hE rfl 39 rfl rfl (.bool true) (by kernel_rfl) fun a hE => ?_
        have hE := hE.re (t := 39) rfl (congrArg Value.bool (or_t (e := (decide ((y6.1.length : Int) > 400))) hb))
        exact st_nil (n_then ⟨hE.sel ⟨rfl, rfl, rfl, rfl, rfl, rfl, trivial⟩, hS⟩)
      · have hE := hE.bool (t := 35) rfl hb
        refine st_pure hE rfl 36 rfl rfl (S y6.1) (by kernel_rfl) fun a hE => ?_
        refine st_pure hE rfl 37 rfl rfl (.int .i64 (y6.1.length : Int)) (by kernel_rfl) fun a hE => ?_
        refine st_pure hE rfl 38 rfl rfl (.bool (decide ((y6.1.length : Int) > 400))) (by kernel_rfl) fun a hE => ?_
        refine st_pure hE rfl 39 rfl rfl (.bool (decide ((y6.1.length : Int) > 400))) (by kernel_rfl) fun a hE => ?_
        have hE := hE.re (t := 39) rfl (congrArg Value.bool (or_f (e := (decide ((y6.1.length : Int) > 400))) hb))
        exact st_nil (n_then ⟨hE.sel ⟨rfl, rfl, rfl, rfl, rfl, rfl, trivial⟩, hS⟩)
    rintro a w ⟨hE, hS⟩
    refine st_nil ?_
    refine n_then ?_
    rcases Bool.eq_false_or_eq_true ((y6.2 != 0) || (decide ((y6.1.length : Int) > 400))) with hb | hb
    · have hB1 := if_t hB1 hb
      refine c_true hE rfl hb ?_
      refine wp_seq ?_
      refine r_list ?_
      refine st_pure hE rfl 2 rfl rfl (.bool false) (by kernel_rfl) fun a hE => ?_
      refine st_nil ?_
      refine n_then ?_
      refine wp_ret ?_
      obtain rfl := Option.some.inj hB1
      have hd := hD1 _ rfl
      subst hd
      obtain rfl := Option.some.inj hF
      refine r_then (r_in (r_then (r_then (r_in (r_then (r_then ?_))))))
      exact out (rs := [.tmp 2]) (vs := [.bool false]) rfl hE hS (.cons (.tmp rfl) .nil) ⟨rfl, hS.pick [] rfl rfl⟩
    have hB1 := if_f hB1 hb
    refine c_false hE rfl hb ?_
    refine wp_skip ?_
    refine n_then ?_
    refine r_list ?_
    refine st_pure hE rfl 40 rfl rfl (S s1.1) (by kernel_rfl) fun a hE => ?_
    refine st_pure hE rfl 41 rfl rfl (S y6.1) (by kernel_rfl) fun a hE => ?_
    obtain ⟨y7, h7, hB1⟩ := bind_some hB1
    refine st_run hE rfl 42 rfl rfl (S y7) (run_cat rfl (hE.eval rfl) (hE.eval rfl) h7) fun a hE => ?_
    refine st_pure hE rfl 3 rfl rfl (S y7) (by kernel_rfl) fun a hE => ?_
    refine st_nil ?_
    refine n_in ?_
    refine n_then ?_
    refine r_list ?_
    refine st_pure hE rfl 43 rfl rfl (.int .i64 (w64 (s1.2 + 1))) (by kernel_rfl) fun a hE => ?_
    refine st_pure hE rfl 15 rfl rfl (.int .i64 (w64 (s1.2 + 1))) (by kernel_rfl) fun a hE => ?_
    refine st_nil ?_
    obtain rfl := Option.some.inj hB1
    refine n_then ?_
    exact ⟨_, rfl, hE.sel ⟨rfl, rfl, rfl, rfl, trivial⟩, hS.pick [0] rfl rfl⟩
  rintro a w ⟨s1, rfl, hE, hS⟩
  replace hF := hF
  refine n_then ?_
  refine wp_seq ?_
  refine r_list ?_
  refine st_pure hE rfl 45 rfl rfl (S s1) (by kernel_rfl) fun a hE => ?_
  obtain ⟨y8, h8, hF⟩ := bind_some hF
  refine go_call hE rfl 46 rfl rfl 38 _ (by kernel_rfl) (W_stat_All s1 _ h8 _ ) fun a v w hR hE => ?_
  obtain ⟨A1, c1, rfl, hq⟩ := hR
  have hS := hS.call hq rfl
  refine st_pure hE rfl 44 rfl rfl (.tuple #[.slice A1 y8.1.length c1, .int .i64 y8.2]) (by kernel_rfl) fun a hE => ?_
  refine st_pure hE rfl 47 rfl rfl (.slice A1 y8.1.length c1) (by kernel_rfl) fun a hE => ?_
  refine st_pure hE rfl 48 rfl rfl (.int .i64 y8.2) (by kernel_rfl) fun a hE => ?_
  refine st_pure hE rfl 7 rfl rfl (.slice A1 y8.1.length c1) (by kernel_rfl) fun a hE => ?_
  refine st_pure hE rfl 8 rfl rfl (.int .i64 y8.2) (by kernel_rfl) fun a hE => ?_
  refine st_nil ?_
  refine n_then ?_
  refine wp_seq ?_
  refine r_list ?_
  refine st_pure hE rfl 49 rfl rfl (.int .i64 y8.2) (by kernel_rfl) fun a hE => ?_
  refine st_pure hE rfl 50 rfl rfl (.bool (y8.2 == 0)) (by kernel_rfl) fun a hE => ?_
  refine st_pure hE rfl 51 rfl rfl (.bool (y8.2 == 0)) (by kernel_rfl) fun a hE => ?_
  obtain ⟨y9, h9, hF⟩ := bind_some hF
  refine st_cut 4 (fun a w => Env 59 a [(55, .bool y9)] ∧ Sep [] w0 w [.row 27 13 A1 y8.1.length c1 (y8.1.map api_Dir.enc), .ro F0 (Rd F0 13 a0 x0.length k0 (x0.map api_Dir.enc))]) ?_ ?_
  · rcases Bool.eq_false_or_eq_true (y8.2 == 0) with hb | hb
    · have hE := hE.bool (t := 51) rfl hb
      have h9 := if_t h9 hb
      refine st_pure hE rfl 52 rfl rfl (.slice a0 x0.length k0) (by kernel_rfl) fun a hE => ?_
      refine st_pure hE rfl 53 rfl rfl (.slice A1 y8.1.length c1) (by kernel_rfl) fun a hE => ?_
      obtain ⟨y10, h10, h9⟩ := bind_some h9
      refine go_call hE rfl 54 rfl rfl 40 _ (by kernel_rfl) (W_law07_equal x0 y8.1 _ h10 _ (hS.in_ (i := 1) rfl .ro) (hS.in_ (i := 0) rfl .row)) fun a v w hR hE => ?_
      obtain ⟨rfl, hq⟩ := hR
      have hS := hS.call hq rfl
      refine st_pure hE rfl 55 rfl rfl (.bool y10) (by kernel_rfl) fun a hE => ?_
      obtain rfl := Option.some.inj h9
      exact st_nil (n_then ⟨hE.sel ⟨rfl, trivial⟩, hS⟩)
    · have hE := hE.bool (t := 51) rfl hb
      have h9 := if_f h9 hb
      refine st_not hE rfl 52 rfl rfl fun a hE => ?_
      refine st_not hE rfl 53 rfl rfl fun a hE => ?_
      refine st_not hE rfl 54 rfl rfl fun a hE => ?_
      refine st_pure hE rfl 55 rfl rfl (.bool false) (by kernel_rfl) fun a hE => ?_
      obtain rfl := Option.some.inj h9
      exact st_nil (n_then ⟨hE.sel ⟨rfl, trivial⟩, hS⟩)
  rintro a w ⟨hE, hS⟩
  refine st_pure hE rfl 56 rfl rfl (.bool y9) (by kernel_rfl) fun a hE => ?_
  obtain ⟨y11, h11, hF⟩ := bind_some hF
  refine st_cut 2 (fun a w => Env 59 a [(58, .bool y11)] ∧ Sep [] w0 w [.row 27 13 A1 y8.1.length c1 (y8.1.map api_Dir.enc), .ro F0 (Rd F0 13 a0 x0.length k0 (x0.map api_Dir.enc))]) ?_ ?_
  · rcases Bool.eq_false_or_eq_true y9 with hb | hb
    · have hE := hE.bool (t := 56) rfl hb
      have h11 := if_t h11 hb
      obtain ⟨y12, h12, h11⟩ := bind_some h11
      refine go_call hE rfl 57 rfl rfl 28 _ (by kernel_rfl) (W_law07_awake  _ h12 _ ) fun a v w hR hE => ?_
      obtain ⟨rfl, hq⟩ := hR
      have hS := hS.call hq rfl
      refine st_pure hE rfl 58 rfl rfl (.bool y12) (by kernel_rfl) fun a hE => ?_
      obtain rfl := Option.some.inj h11
      exact st_nil (n_then ⟨hE.sel ⟨rfl, trivial⟩, hS⟩)
    · have hE := hE.bool (t := 56) rfl hb
      have h11 := if_f h11 hb
      refine st_not hE rfl 57 rfl rfl fun a hE => ?_
      refine st_pure hE rfl 58 rfl rfl (.bool false) (by kernel_rfl) fun a hE => ?_
      obtain rfl := Option.some.inj h11
      exact st_nil (n_then ⟨hE.sel ⟨rfl, trivial⟩, hS⟩)
  rintro a w ⟨hE, hS⟩
  refine st_pure hE rfl 2 rfl rfl (.bool y11) (by kernel_rfl) fun a hE => ?_
  refine st_nil ?_
  refine n_then ?_
  refine wp_ret ?_
  obtain rfl := Option.some.inj hF
  exact out (rs := [.tmp 2]) (vs := [.bool y11]) rfl hE hS (.cons (.tmp rfl) .nil) ⟨rfl, hS.pick [] rfl rfl⟩
/-- filespace/filespaceref11.Same -/
theorem W_ref11_Same (x0 : List api_Dir) (x1 : List api_Dir) (r : Bool) (hF : ref11_Same x0 x1 = some r) (w0 : World) {a0 : Option Addr} {k0 : Nat} {F0 : Nat → Prop} (hs0 : In F0 13 a0 x0.length k0 (x0.map api_Dir.enc) w0) {a1 : Option Addr} {k1 : Nat} {F1 : Nat → Prop} (hs1 : In F1 13 a1 x1.length k1 (x1.map api_Dir.enc) w0) : Ret Try.prog 41 #[.slice a0 x0.length k0, .slice a1 x1.length k1] w0 fun v w => v = .bool r ∧ Sep [] w0 w [] := by
  refine enter Try.func41 rfl rfl rfl fun a hE => ?_
  have hS := Sep.start [] w0
  have hS := hS.lent hs0
  have hS := hS.lent hs1
  unfold ref11_Same at hF
  refine wp_seq ?_
  refine r_list ?_
  refine st_pure hE rfl 4 rfl rfl (.bool false) (by kernel_rfl) fun a hE => ?_
  refine st_nil ?_
  refine n_then ?_
  refine wp_seq ?_
  refine wp_seq ?_
  refine r_list ?_
  refine st_pure hE rfl 6 rfl rfl (.slice a0 x0.length k0) (by kernel_rfl) fun a hE => ?_
  refine st_pure hE rfl 7 rfl rfl (.int .i64 (x0.length : Int)) (by kernel_rfl) fun a hE => ?_
  refine st_pure hE rfl 8 rfl rfl (.slice a1 x1.length k1) (by kernel_rfl) fun a hE => ?_
  refine st_pure hE rfl 9 rfl rfl (.int .i64 (x1.length : Int)) (by kernel_rfl) fun a hE => ?_
  refine st_pure hE rfl 10 rfl rfl (.bool ((x0.length : Int) != (x1.length : Int))) (by kernel_rfl) fun a hE => ?_
  refine st_nil ?_
  refine n_then ?_
  rcases Bool.eq_false_or_eq_true ((x0.length : Int) != (x1.length : Int)) with hb | hb
  · have hF := if_t hF hb
    refine c_true hE rfl hb ?_
    refine wp_seq ?_
    refine r_list ?_
    refine st_pure hE rfl 4 rfl rfl (.bool false) (by kernel_rfl) fun a hE => ?_
    refine st_nil ?_
    refine n_then ?_
    refine wp_ret ?_
    obtain rfl := Option.some.inj hF
    refine r_then ?_
    exact out (rs := [.tmp 4]) (vs := [.bool false]) rfl hE hS (.cons (.tmp rfl) .nil) ⟨rfl, hS.pick [] rfl rfl⟩
  have hF := if_f hF hb
  refine c_false hE rfl hb ?_
  refine wp_skip ?_
  refine n_then ?_
  refine wp_seq ?_
  refine wp_seq ?_
  refine r_list ?_
  refine st_pure hE rfl 11 rfl rfl (.slice a0 x0.length k0) (by kernel_rfl) fun a hE => ?_
  refine st_pure hE rfl 12 rfl rfl (.int .i64 (x0.length : Int)) (by kernel_rfl) fun a hE => ?_
  refine st_pure hE rfl 13 rfl rfl (.int .i64 0) (by kernel_rfl) fun a hE => ?_
  refine st_nil ?_
  refine n_then ?_
  obtain ⟨o1, g1, hF⟩ := bind_some hF
  refine w_meet (fun a w => ∃ s1, o1 = .fall s1 ∧ Env 26 a [] ∧ Sep [] w0 w []) ?_ ?_
  · refine wp_block ?_
    refine loop_rule g1 (fun (s1 : Int) a w => Env 26 a [(0, .slice a0 x0.length k0), (1, .slice a1 x1.length k1), (12, .int .i64 (x0.length : Int)), (13, .int .i64 s1)] ∧ Sep [] w0 w [.ro F0 (Rd F0 13 a0 x0.length k0 (x0.map api_Dir.enc)), .ro F1 (Rd F1 13 a1 x1.length k1 (x1.map api_Dir.enc))]) ?_ ?_
    · exact ⟨hE.sel ⟨rfl, rfl, rfl, rfl, trivial⟩, hS.pick [1, 0] rfl rfl⟩
    rintro s1 a w ⟨hE, hS⟩ st hB1 hD1
    unfold ref11_Same_L1 at hB1
    refine wp_seq ?_
    refine r_list ?_
    refine st_pure hE rfl 14 rfl rfl (.bool (decide (s1 < (x0.length : Int)))) (by kernel_rfl) fun a hE => ?_
    refine st_nil ?_
    refine n_then ?_
    refine wp_seq ?_
    rcases (Bool.eq_false_or_eq_true (decide (s1 < (x0.length : Int)))).symm with hb | hb
    · have hB1 := if_f hB1 hb
      refine c_false hE rfl hb ?_
      refine wp_exit ?_
      refine e_then (e_then (e_in ?_))
      obtain rfl := Option.some.inj hB1
      have hd := hD1 _ rfl
      subst hd
      refine n_then ?_
      exact ⟨_, rfl, hE.sel trivial, hS.pick [] rfl rfl⟩
    have hB1 := if_t hB1 hb
    refine c_true hE rfl hb ?_
    refine wp_skip ?_
    refine n_then ?_
    refine wp_seq ?_
    refine wp_block ?_
    refine wp_seq ?_
    refine r_list ?_
    refine st_pure hE rfl 15 rfl rfl (.int .i64 s1) (by kernel_rfl) fun a hE => ?_
    refine st_pure hE rfl 5 rfl rfl (.int .i64 s1) (by kernel_rfl) fun a hE => ?_
    refine st_nil ?_
    refine n_then ?_
    refine wp_seq ?_
    refine r_mix [] [(0, false), (1, false), (2, false), (3, false), (4, false), (5, false), (6, false), (7, false), (8, false)] rfl (by kernel_rfl) ?_
    have hW := hS
    have hX := hS.now
    refine mx_pure hE rfl rfl 16 rfl rfl (.slice a0 x0.length k0) (by kernel_rfl) fun a hE => ?_
    refine mx_pure hE rfl rfl 17 rfl rfl (.int .i64 s1) (by kernel_rfl) fun a hE => ?_
    obtain ⟨y1, h1, hB1⟩ := bind_some hB1
    refine mx_at (e := 27) (c := 13) hE hW rfl rfl 18 rfl rfl 0 rfl (by kernel_rfl) (by kernel_rfl) rfl rfl rfl .ro rfl h1 fun a b1 p1 hA1 hE => ?_
    refine mx_run hE rfl rfl 19 rfl rfl (.agg (api_Dir.enc y1).toArray) (fun w hx => ld_elem (k := 0) (f := api_Dir.enc) (j := 0) hE (hW.ext hx) rfl rfl rfl .ro hA1 h1 rfl (by kernel_rfl)) fun a hE => ?_
    refine mx_pure hE rfl rfl 20 rfl rfl (.slice a1 x1.length k1) (by kernel_rfl) fun a hE => ?_
    refine mx_pure hE rfl rfl 21 rfl rfl (.int .i64 s1) (by kernel_rfl) fun a hE => ?_
    obtain ⟨y2, h2, hB1⟩ := bind_some hB1
    refine mx_at (e := 27) (c := 13) hE hW rfl rfl 22 rfl rfl 1 rfl (by kernel_rfl) (by kernel_rfl) rfl rfl rfl .ro rfl h2 fun a b2 p2 hA2 hE => ?_
    refine mx_run hE rfl rfl 23 rfl rfl (.agg (api_Dir.enc y2).toArray) (fun w hx => ld_elem (k := 1) (f := api_Dir.enc) (j := 0) hE (hW.ext hx) rfl rfl rfl .ro hA2 h2 rfl (by kernel_rfl)) fun a hE => ?_
    refine mx_run hE rfl rfl 24 rfl rfl (.bool (!(decide (y1 = y2)))) (fun w hx => run_agg_neq rfl (hE.eval rfl) (hE.eval rfl) (api_Dir_eqIs _ _)) fun a hE => ?_
    refine mx_nil fun w hx => ?_
    have hS := hS.ext hx
    refine n_then ?_
    rcases Bool.eq_false_or_eq_true (!(decide (y1 = y2))) with hb | hb
    · have hB1 := if_t hB1 hb
      refine c_true hE rfl hb ?_
      refine wp_seq ?_
      refine r_list ?_
      refine st_pure hE rfl 4 rfl rfl (.bool false) (by kernel_rfl) fun a hE => ?_
      refine st_nil ?_
      refine n_then ?_
      refine wp_ret ?_
      obtain rfl := Option.some.inj hB1
      have hd := hD1 _ rfl
      subst hd
      obtain rfl := Option.some.inj hF
      refine r_in (r_then (r_then (r_in (r_then (r_then ?_)))))
      exact out (rs := [.tmp 4]) (vs := [.bool false]) rfl hE hS (.cons (.tmp rfl) .nil) ⟨rfl, hS.pick [] rfl rfl⟩
    have hB1 := if_f hB1 hb
    refine c_false hE rfl hb ?_
    refine wp_skip ?_
    refine n_in ?_
    refine n_then ?_
    refine r_list ?_
    refine st_pure hE rfl 25 rfl rfl (.int .i64 (w64 (s1 + 1))) (by kernel_rfl) fun a hE => ?_
    refine st_pure hE rfl 13 rfl rfl (.int .i64 (w64 (s1 + 1))) (by kernel_rfl) fun a hE => ?_
    refine st_nil ?_
    obtain rfl := Option.some.inj hB1
    refine n_then ?_
    exact ⟨_, rfl, hE.sel ⟨rfl, rfl, rfl, rfl, trivial⟩, hS.pick [0, 1] rfl rfl⟩
  rintro a w ⟨s1, rfl, hE, hS⟩
  replace hF := hF
  refine n_then ?_
  refine wp_seq ?_
  refine r_list ?_
  refine st_pure hE rfl 4 rfl rfl (.bool true) (by kernel_rfl) fun a hE => ?_
  refine st_nil ?_
  refine n_then ?_
  refine wp_ret ?_
  obtain rfl := Option.some.inj hF
  exact out (rs := [.tmp 4]) (vs := [.bool true]) rfl hE hS (.cons (.tmp rfl) .nil) ⟨rfl, hS.pick [] rfl rfl⟩
/-- filespace/filespacelaw11.DirreadInverse -/
theorem W_law11_DirreadInverse (x0 : List api_Dir) (x1 : Int) (r : Bool) (hF : law11_DirreadInverse x0 x1 = some r) (w0 : World) {a0 : Option Addr} {k0 : Nat} {F0 : Nat → Prop} (hs0 : In F0 13 a0 x0.length k0 (x0.map api_Dir.enc) w0) : Ret Try.prog 15 #[.slice a0 x0.length k0, .int .i64 x1] w0 fun v w => v = .bool r ∧ Sep [] w0 w [] := by
  refine enter Try.func15 rfl rfl rfl fun a hE => ?_
  have hS := Sep.start [] w0
  have hS := hS.lent hs0
  unfold law11_DirreadInverse at hF
  refine wp_seq ?_
  refine r_list ?_
  refine st_pure hE rfl 4 rfl rfl (.bool false) (by kernel_rfl) fun a hE => ?_
  refine st_nil ?_
  refine n_then ?_
  refine wp_seq ?_
  refine wp_seq ?_
  refine r_list ?_
  refine st_pure hE rfl 9 rfl rfl (.slice a0 x0.length k0) (by kernel_rfl) fun a hE => ?_
  obtain ⟨y1, h1, hF⟩ := bind_some hF
  refine go_call hE rfl 10 rfl rfl 19 _ (by kernel_rfl) (W_law11_small x0 _ h1 _ (hS.in_ (i := 0) rfl .ro)) fun a v w hR hE => ?_
  obtain ⟨rfl, hq⟩ := hR
  have hS := hS.call hq rfl
  refine st_pure hE rfl 11 rfl rfl (.bool (!y1)) (by kernel_rfl) fun a hE => ?_
  refine st_nil ?_
  refine n_then ?_
  rcases Bool.eq_false_or_eq_true (!y1) with hb | hb
  · have hF := if_t hF hb
    refine c_true hE rfl hb ?_
    refine wp_seq ?_
    refine r_list ?_
    obtain ⟨y2, h2, hF⟩ := bind_some hF
    refine go_call hE rfl 12 rfl rfl 18 _ (by kernel_rfl) (W_law11_awake  _ h2 _ ) fun a v w hR hE => ?_
    obtain ⟨rfl, hq⟩ := hR
    have hS := hS.call hq rfl
    refine st_pure hE rfl 4 rfl rfl (.bool y2) (by kernel_rfl) fun a hE => ?_
    refine st_nil ?_
    refine n_then ?_
    refine wp_ret ?_
    obtain rfl := Option.some.inj hF
    refine r_then ?_
    exact out (rs := [.tmp 4]) (vs := [.bool y2]) rfl hE hS (.cons (.tmp rfl) .nil) ⟨rfl, hS.pick [] rfl rfl⟩
  have hF := if_f hF hb
  refine c_false hE rfl hb ?_
  refine wp_skip ?_
  refine n_then ?_
  refine wp_seq ?_
  refine r_list ?_
  refine st_pure hE rfl 14 rfl rfl (.slice a0 x0.length k0) (by kernel_rfl) fun a hE => ?_
  refine st_pure hE rfl 15 rfl rfl (.int .i64 x1) (by kernel_rfl) fun a hE => ?_
  obtain ⟨y3, h3, hF⟩ := bind_some hF
  refine go_call hE rfl 16 rfl rfl 25 _ (by kernel_rfl) (W_dirread_All x0 x1 _ h3 _ (hS.in_ (i := 0) rfl .ro)) fun a v w hR hE => ?_
  obtain ⟨rfl, hq⟩ := hR
  have hS := hS.call hq rfl
  refine st_pure hE rfl 13 rfl rfl (.tuple #[S y3.1, .int .i64 y3.2]) (by kernel_rfl) fun a hE => ?_
  refine st_pure hE rfl 17 rfl rfl (S y3.1) (by kernel_rfl) fun a hE => ?_
  refine st_pure hE rfl 18 rfl rfl (.int .i64 y3.2) (by kernel_rfl) fun a hE => ?_
  refine st_pure hE rfl 5 rfl rfl (S y3.1) (by kernel_rfl) fun a hE => ?_
  refine st_pure hE rfl 6 rfl rfl (.int .i64 y3.2) (by kernel_rfl) fun a hE => ?_
  refine st_nil ?_
  refine n_then ?_
  refine wp_seq ?_
  refine wp_seq ?_
  refine r_list ?_
  refine st_pure hE rfl 19 rfl rfl (.int .i64 y3.2) (by kernel_rfl) fun a hE => ?_
  refine st_pure hE rfl 20 rfl rfl (.bool (y3.2 != 0)) (by kernel_rfl) fun a hE => ?_
  refine st_nil ?_
  refine n_then ?_
  rcases Bool.eq_false_or_eq_true (y3.2 != 0) with hb | hb
  · have hF := if_t hF hb
    refine c_true hE rfl hb ?_
    refine wp_seq ?_
    refine r_list ?_
    refine st_pure hE rfl 21 rfl rfl (S y3.1) (by kernel_rfl) fun a hE => ?_
    refine st_run hE rfl 22 rfl rfl (.bool (y3.1 == [])) (run_str_eql rfl (hE.eval rfl) (hE.eval rfl)) fun a hE => ?_
    refine st_pure hE rfl 23 rfl rfl (.bool (y3.1 == [])) (by kernel_rfl) fun a hE => ?_
    obtain ⟨y4, h4, hF⟩ := bind_some hF
    refine st_cut 2 (fun a w => Env 41 a [(25, .bool y4)] ∧ Sep [] w0 w [.ro F0 (Rd F0 13 a0 x0.length k0 (x0.map api_Dir.enc))]) ?_ ?_
    · rcases Bool.eq_false_or_eq_true (y3.1 == []) with hb | hb
      · have hE := hE.bool (t := 23) rfl hb
        have h4 := if_t h4 hb
        obtain ⟨y5, h5, h4⟩ := bind_some h4
        refine go_call hE rfl 24 rfl rfl 18 _ (by kernel_rfl) (W_law11_awake  _ h5 _ ) fun a v w hR hE => ?_
        obtain ⟨rfl, hq⟩ := hR
        have hS := hS.call hq rfl
        refine st_pure hE rfl 25 rfl rfl (.bool y5) (by kernel_rfl) fun a hE => ?_
        obtain rfl := Option.some.inj h4
        exact st_nil (n_then ⟨hE.sel ⟨rfl, trivial⟩, hS⟩)
      · have hE := hE.bool (t := 23) rfl hb
        have h4 := if_f h4 hb
        refine st_not hE rfl 24 rfl rfl fun a hE => ?_
        refine st_pure hE rfl 25 rfl rfl (.bool false) (by kernel_rfl) fun a hE => ?_
        obtain rfl := Option.some.inj h4
        exact st_nil (n_then ⟨hE.sel ⟨rfl, trivial⟩, hS⟩)
    rintro a w ⟨hE, hS⟩
    refine st_pure hE rfl 4 rfl rfl (.bool y4) (by kernel_rfl) fun a hE => ?_
    refine st_nil ?_
    refine n_then ?_
    refine wp_ret ?_
    obtain rfl := Option.some.inj hF
    refine r_then ?_
    exact out (rs := [.tmp 4]) (vs := [.bool y4]) rfl hE hS (.cons (.tmp rfl) .nil) ⟨rfl, hS.pick [] rfl rfl⟩
  have hF := if_f hF hb
  refine c_false hE rfl hb ?_
  refine wp_skip ?_
  refine n_then ?_
  refine wp_seq ?_
  refine r_list ?_
  refine st_pure hE rfl 27 rfl rfl (S y3.1) (by kernel_rfl) fun a hE => ?_
  obtain ⟨y6, h6, hF⟩ := bind_some hF
  refine go_call hE rfl 28 rfl rfl 38 _ (by kernel_rfl) (W_stat_All y3.1 _ h6 _ ) fun a v w hR hE => ?_
  obtain ⟨A1, c1, rfl, hq⟩ := hR
  have hS := hS.call hq rfl
  refine st_pure hE rfl 26 rfl rfl (.tuple #[.slice A1 y6.1.length c1, .int .i64 y6.2]) (by kernel_rfl) fun a hE => ?_
  refine st_pure hE rfl 29 rfl rfl (.slice A1 y6.1.length c1) (by kernel_rfl) fun a hE => ?_
  refine st_pure hE rfl 30 rfl rfl (.int .i64 y6.2) (by kernel_rfl) fun a hE => ?_
  refine st_pure hE rfl 7 rfl rfl (.slice A1 y6.1.length c1) (by kernel_rfl) fun a hE => ?_
  refine st_pure hE rfl 8 rfl rfl (.int .i64 y6.2) (by kernel_rfl) fun a hE => ?_
  refine st_nil ?_
  refine n_then ?_
  refine wp_seq ?_
  refine r_list ?_
  refine st_pure hE rfl 31 rfl rfl (.slice a0 x0.length k0) (by kernel_rfl) fun a hE => ?_
  refine st_pure hE rfl 32 rfl rfl (.slice A1 y6.1.length c1) (by kernel_rfl) fun a hE => ?_
  obtain ⟨y7, h7, hF⟩ := bind_some hF
  refine go_call hE rfl 33 rfl rfl 41 _ (by kernel_rfl) (W_ref11_Same x0 y6.1 _ h7 _ (hS.in_ (i := 1) rfl .ro) (hS.in_ (i := 0) rfl .row)) fun a v w hR hE => ?_
  obtain ⟨rfl, hq⟩ := hR
  have hS := hS.call hq rfl
  refine st_pure hE rfl 34 rfl rfl (.bool y7) (by kernel_rfl) fun a hE => ?_
  refine st_cut 3 (fun a w => Env 41 a [(37, .bool (y7 && (y6.2 == 0)))] ∧ Sep [] w0 w [.row 27 13 A1 y6.1.length c1 (y6.1.map api_Dir.enc), .ro F0 (Rd F0 13 a0 x0.length k0 (x0.map api_Dir.enc))]) ?_ ?_
  · rcases Bool.eq_false_or_eq_true y7 with hb | hb
    · have hE := hE.bool (t := 34) rfl hb
      refine st_pure hE rfl 35 rfl rfl (.int .i64 y6.2) (by kernel_rfl) fun a hE => ?_
      refine st_pure hE rfl 36 rfl rfl (.bool (y6.2 == 0)) (by kernel_rfl) fun a hE => ?_
      refine st_pure hE rfl 37 rfl rfl (.bool (y6.2 == 0)) (by kernel_rfl) fun a hE => ?_
      have hE := hE.re (t := 37) rfl (congrArg Value.bool (and_t (e := (y6.2 == 0)) hb))
      exact st_nil (n_then ⟨hE.sel ⟨rfl, trivial⟩, hS⟩)
    · have hE := hE.bool (t := 34) rfl hb
      refine st_not hE rfl 35 rfl rfl fun a hE => ?_
      refine st_not hE rfl 36 rfl rfl fun a hE => ?_
      refine st_pure hE rfl 37 rfl rfl (.bool false) (by kernel_rfl) fun a hE => ?_
      have hE := hE.re (t := 37) rfl (congrArg Value.bool (and_f (e := (y6.2 == 0)) hb))
      exact st_nil (n_then ⟨hE.sel ⟨rfl, trivial⟩, hS⟩)
  rintro a w ⟨hE, hS⟩
  refine st_pure hE rfl 38 rfl rfl (.bool (y7 && (y6.2 == 0))) (by kernel_rfl) fun a hE => ?_
  obtain ⟨y8, h8, hF⟩ := bind_some hF
  refine st_cut 2 (fun a w => Env 41 a [(40, .bool y8)] ∧ Sep [] w0 w [.row 27 13 A1 y6.1.length c1 (y6.1.map api_Dir.enc), .ro F0 (Rd F0 13 a0 x0.length k0 (x0.map api_Dir.enc))]) ?_ ?_
  · rcases Bool.eq_false_or_eq_true (y7 && (y6.2 == 0)) with hb | hb
    · have hE := hE.bool (t := 38) rfl hb
      have h8 := if_t h8 hb
      obtain ⟨y9, h9, h8⟩ := bind_some h8
      refine go_call hE rfl 39 rfl rfl 18 _ (by kernel_rfl) (W_law11_awake  _ h9 _ ) fun a v w hR hE => ?_
      obtain ⟨rfl, hq⟩ := hR
      have hS := hS.call hq rfl
      refine st_pure hE rfl 40 rfl rfl (.bool y9) (by kernel_rfl) fun a hE => ?_
      obtain rfl := Option.some.inj h8
      exact st_nil (n_then ⟨hE.sel ⟨rfl, trivial⟩, hS⟩)
    · have hE := hE.bool (t := 38) rfl hb
      have h8 := if_f h8 hb
      refine st_not hE rfl 39 rfl rfl fun a hE => ?_
      refine st_pure hE rfl 40 rfl rfl (.bool false) (by kernel_rfl) fun a hE => ?_
      obtain rfl := Option.some.inj h8
      exact st_nil (n_then ⟨hE.sel ⟨rfl, trivial⟩, hS⟩)
  rintro a w ⟨hE, hS⟩
  refine st_pure hE rfl 4 rfl rfl (.bool y8) (by kernel_rfl) fun a hE => ?_
  refine st_nil ?_
  refine n_then ?_
  refine wp_ret ?_
  obtain rfl := Option.some.inj hF
  exact out (rs := [.tmp 4]) (vs := [.bool y8]) rfl hE hS (.cons (.tmp rfl) .nil) ⟨rfl, hS.pick [] rfl rfl⟩
end Go.Proofs.Ytglcohgjcjaamaa
