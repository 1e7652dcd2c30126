/-
  The walks: each Go function computes what its namesake on plain data says: printed by a program of ours (gosh.py) off the translation.
-/
import Derived.Test.YtglcohgjcjaamaaW1
namespace Go.Proofs.Ytglcohgjcjaamaa
open Go.Rt Go.RowKit

/-- slices.Index[[]int,int] -/
theorem W_slices_Index_intint (x0 : List Int) (x1 : Int) (r : Int) (hF : slices_Index_intint x0 x1 = some r) (w0 : World) {a0 : Option Addr} {k0 : Nat} {F0 : Nat → Prop} (hs0 : In F0 1 a0 x0.length k0 (x0.map (eI .i64)) w0) : Ret Try.prog 63 #[.slice a0 x0.length k0, .int .i64 x1] w0 fun v w => v = .int .i64 r ∧ Sep [] w0 w [] := by
  refine enter Try.func63 rfl rfl rfl fun a hE => ?_
  have hS := Sep.start [] w0
  have hS := hS.lent hs0
  unfold slices_Index_intint at hF
  refine wp_seq ?_
  refine r_list ?_
  refine st_pure hE rfl 4 rfl rfl (.int .i64 0) (by kernel_rfl) fun a hE => ?_
  refine st_nil ?_
  refine n_then ?_
  refine wp_seq ?_
  refine wp_seq ?_
  refine r_list ?_
  refine st_pure hE rfl 6 rfl rfl (.slice a0 x0.length k0) (by kernel_rfl) fun a hE => ?_
  refine st_pure hE rfl 7 rfl rfl (.int .i64 (x0.length : Int)) (by kernel_rfl) fun a hE => ?_
  refine st_pure hE rfl 8 rfl rfl (.int .i64 0) (by kernel_rfl) fun a hE => ?_
  refine st_nil ?_
  refine n_then ?_
  obtain ⟨o1, g1, hF⟩ := bind_some hF
  refine w_meet (fun a w => ∃ s1, o1 = .fall s1 ∧ Env 19 a [] ∧ Sep [] w0 w []) ?_ ?_
  · refine wp_block ?_
    refine loop_rule g1 (fun (s1 : Int) a w => Env 19 a [(0, .slice a0 x0.length k0), (1, .int .i64 x1), (7, .int .i64 (x0.length : Int)), (8, .int .i64 s1)] ∧ Sep [] w0 w [.ro F0 (Rd F0 1 a0 x0.length k0 (x0.map (eI .i64)))]) ?_ ?_
    · exact ⟨hE.sel ⟨rfl, rfl, rfl, rfl, trivial⟩, hS.pick [0] rfl rfl⟩
    rintro s1 a w ⟨hE, hS⟩ st hB1 hD1
    unfold slices_Index_intint_L1 at hB1
    refine wp_seq ?_
    refine r_list ?_
    refine st_pure hE rfl 9 rfl rfl (.bool (decide (s1 < (x0.length : Int)))) (by kernel_rfl) fun a hE => ?_
    refine st_nil ?_
    refine n_then ?_
    refine wp_seq ?_
    rcases (Bool.eq_false_or_eq_true (decide (s1 < (x0.length : Int)))).symm with hb | hb
    · have hB1 := if_f hB1 hb
      refine c_false hE rfl hb ?_
      refine wp_exit ?_
      refine e_then (e_then (e_in ?_))
      obtain rfl := Option.some.inj hB1
      have hd := hD1 _ rfl
      subst hd
      refine n_then ?_
      exact ⟨_, rfl, hE.sel trivial, hS.pick [] rfl rfl⟩
    have hB1 := if_t hB1 hb
    refine c_true hE rfl hb ?_
    refine wp_skip ?_
    refine n_then ?_
    refine wp_seq ?_
    refine wp_block ?_
    refine wp_seq ?_
    refine r_list ?_
    refine st_pure hE rfl 10 rfl rfl (.int .i64 s1) (by kernel_rfl) fun a hE => ?_
    refine st_pure hE rfl 5 rfl rfl (.int .i64 s1) (by kernel_rfl) fun a hE => ?_
    refine st_nil ?_
    refine n_then ?_
    refine wp_seq ?_
    refine r_list ?_
    refine st_pure hE rfl 11 rfl rfl (.int .i64 x1) (by kernel_rfl) fun a hE => ?_
    refine st_pure hE rfl 12 rfl rfl (.slice a0 x0.length k0) (by kernel_rfl) fun a hE => ?_
    refine st_pure hE rfl 13 rfl rfl (.int .i64 s1) (by kernel_rfl) fun a hE => ?_
    obtain ⟨y1, h1, hB1⟩ := bind_some hB1
    refine go_at (e := 3) (c := 1) hE hS rfl 14 rfl rfl 0 rfl (by kernel_rfl) (by kernel_rfl) rfl rfl rfl .ro rfl h1 fun a b1 p1 hA1 hE => ?_
    refine st_run hE rfl 15 rfl rfl (.int .i64 y1) (ld_elem (k := 0) (f := (eI .i64)) (j := 0) hE hS rfl rfl rfl .ro hA1 h1 rfl (by kernel_rfl)) fun a hE => ?_
    refine st_pure hE rfl 16 rfl rfl (.bool (x1 == y1)) (by kernel_rfl) fun a hE => ?_
    refine st_nil ?_
    refine n_then ?_
    rcases Bool.eq_false_or_eq_true (x1 == y1) with hb | hb
    · have hB1 := if_t hB1 hb
      refine c_true hE rfl hb ?_
      refine wp_seq ?_
      refine r_list ?_
      refine st_pure hE rfl 17 rfl rfl (.int .i64 s1) (by kernel_rfl) fun a hE => ?_
      refine st_pure hE rfl 4 rfl rfl (.int .i64 s1) (by kernel_rfl) fun a hE => ?_
      refine st_nil ?_
      refine n_then ?_
      refine wp_ret ?_
      obtain rfl := Option.some.inj hB1
      have hd := hD1 _ rfl
      subst hd
      obtain rfl := Option.some.inj hF
      refine r_in (r_then (r_then (r_in (r_then (r_then ?_)))))
      exact out (rs := [.tmp 4]) (vs := [.int .i64 s1]) rfl hE hS (.cons (.tmp rfl) .nil) ⟨rfl, hS.pick [] rfl rfl⟩
    have hB1 := if_f hB1 hb
    refine c_false hE rfl hb ?_
    refine wp_skip ?_
    refine n_in ?_
    refine n_then ?_
    refine r_list ?_
    refine st_pure hE rfl 18 rfl rfl (.int .i64 (w64 (s1 + 1))) (by kernel_rfl) fun a hE => ?_
    refine st_pure hE rfl 8 rfl rfl (.int .i64 (w64 (s1 + 1))) (by kernel_rfl) fun a hE => ?_
    refine st_nil ?_
    obtain rfl := Option.some.inj hB1
    refine n_then ?_
    exact ⟨_, rfl, hE.sel ⟨rfl, rfl, rfl, rfl, trivial⟩, hS.pick [0] rfl rfl⟩
  rintro a w ⟨s1, rfl, hE, hS⟩
  replace hF := hF
  refine n_then ?_
  refine wp_seq ?_
  refine r_list ?_
  refine st_pure hE rfl 4 rfl rfl (.int .i64 (-1)) (by kernel_rfl) fun a hE => ?_
  refine st_nil ?_
  refine n_then ?_
  refine wp_ret ?_
  obtain rfl := Option.some.inj hF
  exact out (rs := [.tmp 4]) (vs := [.int .i64 (-1)]) rfl hE hS (.cons (.tmp rfl) .nil) ⟨rfl, hS.pick [] rfl rfl⟩
/-- filespace/dirread.page -/
theorem W_dirread_page (x0 : Str) (x1 : List Int) (x2 : Int) (x3 : Int) (r : Str × Int) (hF : dirread_page x0 x1 x2 x3 = some r) (w0 : World) {a1 : Option Addr} {k1 : Nat} {F1 : Nat → Prop} (hs1 : In F1 1 a1 x1.length k1 (x1.map (eI .i64)) w0) : Ret Try.prog 47 #[S x0, .slice a1 x1.length k1, .int .i64 x2, .int .i64 x3] w0 fun v w => v = .tuple #[S r.1, .int .i64 r.2] ∧ Sep [] w0 w [] := by
  refine enter Try.func47 rfl rfl rfl fun a hE => ?_
  have hS := Sep.start [] w0
  have hS := hS.lent hs1
  unfold dirread_page at hF
  refine wp_seq ?_
  refine r_list ?_
  refine st_pure hE rfl 8 rfl rfl (S []) (by kernel_rfl) fun a hE => ?_
  refine st_pure hE rfl 9 rfl rfl (.int .i64 0) (by kernel_rfl) fun a hE => ?_
  refine st_nil ?_
  refine n_then ?_
  refine wp_seq ?_
  refine r_list ?_
  refine st_pure hE rfl 14 rfl rfl (.slice a1 x1.length k1) (by kernel_rfl) fun a hE => ?_
  refine st_pure hE rfl 15 rfl rfl (.int .i64 x2) (by kernel_rfl) fun a hE => ?_
  obtain ⟨y1, h1, hF⟩ := bind_some hF
  refine go_call hE rfl 16 rfl rfl 63 _ (by kernel_rfl) (W_slices_Index_intint x1 x2 _ h1 _ (hS.in_ (i := 0) rfl .ro)) fun a v w hR hE => ?_
  obtain ⟨rfl, hq⟩ := hR
  have hS := hS.call hq rfl
  refine st_pure hE rfl 10 rfl rfl (.int .i64 y1) (by kernel_rfl) fun a hE => ?_
  refine st_nil ?_
  refine n_then ?_
  refine wp_seq ?_
  refine wp_seq ?_
  refine r_list ?_
  refine st_pure hE rfl 17 rfl rfl (.int .i64 y1) (by kernel_rfl) fun a hE => ?_
  refine st_pure hE rfl 18 rfl rfl (.bool (decide (y1 < 0))) (by kernel_rfl) fun a hE => ?_
  refine st_nil ?_
  refine n_then ?_
  rcases Bool.eq_false_or_eq_true (decide (y1 < 0)) with hb | hb
  · have hF := if_t hF hb
    refine c_true hE rfl hb ?_
    refine wp_seq ?_
    refine r_list ?_
    refine st_pure hE rfl 8 rfl rfl (S []) (by kernel_rfl) fun a hE => ?_
    refine st_pure hE rfl 9 rfl rfl (.int .i64 20) (by kernel_rfl) fun a hE => ?_
    refine st_nil ?_
    refine n_then ?_
    refine wp_ret ?_
    obtain rfl := Option.some.inj hF
    refine r_then ?_
    exact out (rs := [.tmp 8, .tmp 9]) (vs := [S [], .int .i64 20]) rfl hE hS (.cons (.tmp rfl) (.cons (.tmp rfl) .nil)) ⟨rfl, hS.pick [] rfl rfl⟩
  have hF := if_f hF hb
  refine c_false hE rfl hb ?_
  refine wp_skip ?_
  refine n_then ?_
  refine wp_seq ?_
  refine r_list ?_
  refine st_pure hE rfl 19 rfl rfl (.int .i64 x2) (by kernel_rfl) fun a hE => ?_
  refine st_pure hE rfl 11 rfl rfl (.int .i64 x2) (by kernel_rfl) fun a hE => ?_
  refine st_nil ?_
  refine n_then ?_
  refine wp_seq ?_
  refine wp_seq ?_
  refine r_list ?_
  refine st_pure hE rfl 20 rfl rfl (.slice a1 x1.length k1) (by kernel_rfl) fun a hE => ?_
  refine st_pure hE rfl 21 rfl rfl (.int .i64 y1) (by kernel_rfl) fun a hE => ?_
  refine st_pure hE rfl 22 rfl rfl (.int .i64 (w64 (y1 + 1))) (by kernel_rfl) fun a hE => ?_
  obtain ⟨y2, h2, hF⟩ := bind_some hF
  have hq := sub_le h2
  have hS := hS.ro_cut2 (i := 0) rfl hq.1 hq.2
  rw [sub_len h2, sub_map h2 (eI .i64)] at hS
  have hc := (hS.in_ (i := 1) rfl .ro).rd.2
  refine st_run hE rfl 23 rfl rfl _ (run_cut (e := 3) (c := 1) (l := (some (w64 (y1 + 1)))) (h := none) rfl (by kernel_rfl) (by kernel_rfl) (hE.eval rfl) (bnd_some (hE.eval rfl)) bnd_none (subI_some h2).1 (subI_some h2).2.1 (cap_none hc)) fun a hE => ?_
  have hE := hE.re (t := 23) (v' := .slice (cutA a1 1 (w64 (y1 + 1)).toNat k1) y2.length (k1 - (w64 (y1 + 1)).toNat)) rfl (congrArg (fun n => Value.slice _ n _) (sub_len h2))
  refine st_pure hE rfl 24 rfl rfl (.int .i64 (y2.length : Int)) (by kernel_rfl) fun a hE => ?_
  refine st_pure hE rfl 25 rfl rfl (.int .i64 0) (by kernel_rfl) fun a hE => ?_
  refine st_nil ?_
  refine n_then ?_
  obtain ⟨o1, g1, hF⟩ := bind_some hF
  refine w_meet (fun a w => Env 49 a [(0, S x0), (2, .int .i64 x2), (11, .int .i64 o1)] ∧ Sep [] w0 w []) ?_ ?_
  · refine wp_block ?_
    refine loop_rule g1 (fun (s1 : Int × Int) a w => Env 49 a [(0, S x0), (2, .int .i64 x2), (3, .int .i64 x3), (11, .int .i64 s1.1), (23, .slice (cutA a1 1 (w64 (y1 + 1)).toNat k1) y2.length (k1 - (w64 (y1 + 1)).toNat)), (24, .int .i64 (y2.length : Int)), (25, .int .i64 s1.2)] ∧ Sep [] w0 w [.ro F1 (Rd F1 1 (cutA a1 1 (w64 (y1 + 1)).toNat k1) y2.length (k1 - (w64 (y1 + 1)).toNat) (y2.map (eI .i64)))]) ?_ ?_
    · exact ⟨hE.sel ⟨rfl, rfl, rfl, rfl, rfl, rfl, rfl, trivial⟩, hS.pick [0] rfl rfl⟩
    rintro s1 a w ⟨hE, hS⟩ st hB1 hD1
    unfold dirread_page_L1 at hB1
    refine wp_seq ?_
    refine r_list ?_
    refine st_pure hE rfl 26 rfl rfl (.bool (decide (s1.2 < (y2.length : Int)))) (by kernel_rfl) fun a hE => ?_
    refine st_nil ?_
    refine n_then ?_
    refine wp_seq ?_
    rcases (Bool.eq_false_or_eq_true (decide (s1.2 < (y2.length : Int)))).symm with hb | hb
    · have hB1 := if_f hB1 hb
      refine c_false hE rfl hb ?_
      refine wp_exit ?_
      refine e_then (e_then (e_in ?_))
      obtain rfl := Option.some.inj hB1
      have hd := hD1 _ rfl
      subst hd
      refine n_then ?_
      exact ⟨hE.sel ⟨rfl, rfl, rfl, trivial⟩, hS.pick [] rfl rfl⟩
    have hB1 := if_t hB1 hb
    refine c_true hE rfl hb ?_
    refine wp_skip ?_
    refine n_then ?_
    obtain ⟨o2, g2, hB1⟩ := bind_some hB1
    refine s_meet (fun a w => Env 49 a [(0, S x0), (2, .int .i64 x2), (3, .int .i64 x3), (11, .int .i64 o2), (23, .slice (cutA a1 1 (w64 (y1 + 1)).toNat k1) y2.length (k1 - (w64 (y1 + 1)).toNat)), (24, .int .i64 (y2.length : Int)), (25, .int .i64 s1.2)] ∧ Sep [] w0 w [.ro F1 (Rd F1 1 (cutA a1 1 (w64 (y1 + 1)).toNat k1) y2.length (k1 - (w64 (y1 + 1)).toNat) (y2.map (eI .i64)))]) ?_ ?_
    · refine wp_block ?_
      refine wp_seq ?_
      refine r_list ?_
      obtain ⟨y3, h3, g2⟩ := bind_some g2
      refine go_at (e := 3) (c := 1) hE hS rfl 27 rfl rfl 0 rfl (by kernel_rfl) (by kernel_rfl) rfl rfl rfl .ro rfl h3 fun a b1 p1 hA1 hE => ?_
      refine st_run hE rfl 28 rfl rfl (.int .i64 y3) (ld_elem (k := 0) (f := (eI .i64)) (j := 0) hE hS rfl rfl rfl .ro hA1 h3 rfl (by kernel_rfl)) fun a hE => ?_
      refine st_pure hE rfl 13 rfl rfl (.int .i64 y3) (by kernel_rfl) fun a hE => ?_
      refine st_nil ?_
      refine n_then ?_
      refine wp_seq ?_
      refine r_list ?_
      refine st_pure hE rfl 29 rfl rfl (.int .i64 y3) (by kernel_rfl) fun a hE => ?_
      refine st_pure hE rfl 30 rfl rfl (.int .i64 x2) (by kernel_rfl) fun a hE => ?_
      refine st_pure hE rfl 31 rfl rfl (.int .i64 (w64 (y3 - x2))) (by kernel_rfl) fun a hE => ?_
      refine st_pure hE rfl 32 rfl rfl (.int .i64 x3) (by kernel_rfl) fun a hE => ?_
      refine st_pure hE rfl 33 rfl rfl (.bool (decide ((w64 (y3 - x2)) ≤ x3))) (by kernel_rfl) fun a hE => ?_
      refine st_nil ?_
      refine n_then ?_
      rcases Bool.eq_false_or_eq_true (decide ((w64 (y3 - x2)) ≤ x3)) with hb | hb
      · have g2 := if_t g2 hb
        refine c_true hE rfl hb ?_
        refine r_list ?_
        refine st_pure hE rfl 34 rfl rfl (.int .i64 y3) (by kernel_rfl) fun a hE => ?_
        refine st_pure hE rfl 11 rfl rfl (.int .i64 y3) (by kernel_rfl) fun a hE => ?_
        refine st_nil ?_
        refine n_in ?_
        obtain rfl := Option.some.inj g2
        refine n_then ?_
        exact ⟨hE.sel ⟨rfl, rfl, rfl, rfl, rfl, rfl, rfl, trivial⟩, hS.pick [0] rfl rfl⟩
      have g2 := if_f g2 hb
      refine c_false hE rfl hb ?_
      refine wp_skip ?_
      refine n_in ?_
      obtain rfl := Option.some.inj g2
      refine n_then ?_
      exact ⟨hE.sel ⟨rfl, rfl, rfl, rfl, rfl, rfl, rfl, trivial⟩, hS.pick [0] rfl rfl⟩
    rintro a w ⟨hE, hS⟩
    refine r_list ?_
    refine st_pure hE rfl 35 rfl rfl (.int .i64 (w64 (s1.2 + 1))) (by kernel_rfl) fun a hE => ?_
    refine st_pure hE rfl 25 rfl rfl (.int .i64 (w64 (s1.2 + 1))) (by kernel_rfl) fun a hE => ?_
    refine st_nil ?_
    obtain rfl := Option.some.inj hB1
    refine n_then ?_
    exact ⟨_, rfl, hE.sel ⟨rfl, rfl, rfl, rfl, rfl, rfl, rfl, trivial⟩, hS.pick [0] rfl rfl⟩
  rintro a w ⟨hE, hS⟩
  refine n_then ?_
  refine wp_seq ?_
  refine wp_seq ?_
  refine r_list ?_
  refine st_pure hE rfl 36 rfl rfl (.int .i64 o1) (by kernel_rfl) fun a hE => ?_
  refine st_pure hE rfl 37 rfl rfl (.int .i64 x2) (by kernel_rfl) fun a hE => ?_
  refine st_pure hE rfl 38 rfl rfl (.bool (o1 == x2)) (by kernel_rfl) fun a hE => ?_
  refine st_pure hE rfl 39 rfl rfl (.bool (o1 == x2)) (by kernel_rfl) fun a hE => ?_
  refine st_cut 5 (fun a w => Env 49 a [(44, .bool ((o1 == x2) && (decide (x2 < (x0.length : Int))))), (0, S x0), (2, .int .i64 x2), (11, .int .i64 o1)] ∧ Sep [] w0 w []) ?_ ?_
  · rcases Bool.eq_false_or_eq_true (o1 == x2) with hb | hb
    · have hE := hE.bool (t := 39) rfl hb
      refine st_pure hE rfl 40 rfl rfl (.int .i64 x2) (by kernel_rfl) fun a hE => ?_
      refine st_pure hE rfl 41 rfl rfl (S x0) (by kernel_rfl) fun a hE => ?_
      refine st_pure hE rfl 42 rfl rfl (.int .i64 (x0.length : Int)) (by kernel_rfl) fun a hE => ?_
      refine st_pure hE rfl 43 rfl rfl (.bool (decide (x2 < (x0.length : Int)))) (by kernel_rfl) fun a hE => ?_
      refine st_pure hE rfl 44 rfl rfl (.bool (decide (x2 < (x0.length : Int)))) (by kernel_rfl) fun a hE => ?_
      have hE := hE.re (t := 44) rfl (congrArg Value.bool (and_t (e := (decide (x2 < (x0.length : Int)))) hb))
      exact st_nil (n_then ⟨hE.sel ⟨rfl, rfl, rfl, rfl, trivial⟩, hS⟩)
    · have hE := hE.bool (t := 39) rfl hb
      refine st_not hE rfl 40 rfl rfl fun a hE => ?_
      refine st_not hE rfl 41 rfl rfl fun a hE => ?_
      refine st_not hE rfl 42 rfl rfl fun a hE => ?_
      refine st_not hE rfl 43 rfl rfl fun a hE => ?_
      refine st_pure hE rfl 44 rfl rfl (.bool false) (by kernel_rfl) fun a hE => ?_
      have hE := hE.re (t := 44) rfl (congrArg Value.bool (and_f (e := (decide (x2 < (x0.length : Int)))) hb))
      exact st_nil (n_then ⟨hE.sel ⟨rfl, rfl, rfl, rfl, trivial⟩, hS⟩)
  rintro a w ⟨hE, hS⟩
  refine st_nil ?_
  refine n_then ?_
  rcases Bool.eq_false_or_eq_true ((o1 == x2) && (decide (x2 < (x0.length : Int)))) with hb | hb
  · have hF := if_t hF hb
    refine c_true hE rfl hb ?_
    refine wp_seq ?_
    refine r_list ?_
    refine st_pure hE rfl 8 rfl rfl (S []) (by kernel_rfl) fun a hE => ?_
    refine st_pure hE rfl 9 rfl rfl (.int .i64 3) (by kernel_rfl) fun a hE => ?_
    refine st_nil ?_
    refine n_then ?_
    refine wp_ret ?_
    obtain rfl := Option.some.inj hF
    refine r_then ?_
    exact out (rs := [.tmp 8, .tmp 9]) (vs := [S [], .int .i64 3]) rfl hE hS (.cons (.tmp rfl) (.cons (.tmp rfl) .nil)) ⟨rfl, hS.pick [] rfl rfl⟩
  have hF := if_f hF hb
  refine c_false hE rfl hb ?_
  refine wp_skip ?_
  refine n_then ?_
  refine wp_seq ?_
  refine r_list ?_
  refine st_pure hE rfl 45 rfl rfl (S x0) (by kernel_rfl) fun a hE => ?_
  refine st_pure hE rfl 46 rfl rfl (.int .i64 x2) (by kernel_rfl) fun a hE => ?_
  refine st_pure hE rfl 47 rfl rfl (.int .i64 o1) (by kernel_rfl) fun a hE => ?_
  obtain ⟨y4, h4, hF⟩ := bind_some hF
  refine st_run hE rfl 48 rfl rfl (S y4) (run_str_sub (l := (some x2)) (h := (some o1)) rfl (by kernel_rfl) (hE.eval rfl) (bnd_some (hE.eval rfl)) (bnd_some (hE.eval rfl)) h4) fun a hE => ?_
  refine st_pure hE rfl 8 rfl rfl (S y4) (by kernel_rfl) fun a hE => ?_
  refine st_pure hE rfl 9 rfl rfl (.int .i64 0) (by kernel_rfl) fun a hE => ?_
  refine st_nil ?_
  refine n_then ?_
  refine wp_ret ?_
  obtain rfl := Option.some.inj hF
  exact out (rs := [.tmp 8, .tmp 9]) (vs := [S y4, .int .i64 0]) rfl hE hS (.cons (.tmp rfl) (.cons (.tmp rfl) .nil)) ⟨rfl, hS.pick [] rfl rfl⟩
/-- filespace/dirread.Page -/
theorem W_dirread_Page (x0 : List api_Dir) (x1 : Int) (x2 : Int) (r : Str × Int) (hF : dirread_Page x0 x1 x2 = some r) (w0 : World) {a0 : Option Addr} {k0 : Nat} {F0 : Nat → Prop} (hs0 : In F0 13 a0 x0.length k0 (x0.map api_Dir.enc) w0) : Ret Try.prog 20 #[.slice a0 x0.length k0, .int .i64 x1, .int .i64 x2] w0 fun v w => v = .tuple #[S r.1, .int .i64 r.2] ∧ Sep [] w0 w [] := by
  refine enter Try.func20 rfl rfl rfl fun a hE => ?_
  have hS := Sep.start [] w0
  have hS := hS.lent hs0
  unfold dirread_Page at hF
  refine wp_seq ?_
  refine r_list ?_
  refine st_pure hE rfl 6 rfl rfl (S []) (by kernel_rfl) fun a hE => ?_
  refine st_pure hE rfl 7 rfl rfl (.int .i64 0) (by kernel_rfl) fun a hE => ?_
  refine st_nil ?_
  refine n_then ?_
  refine wp_seq ?_
  refine wp_seq ?_
  refine r_list ?_
  refine st_pure hE rfl 11 rfl rfl (.int .i64 x1) (by kernel_rfl) fun a hE => ?_
  refine st_pure hE rfl 12 rfl rfl (.bool (decide (x1 < 0))) (by kernel_rfl) fun a hE => ?_
  refine st_pure hE rfl 13 rfl rfl (.bool (decide (x1 < 0))) (by kernel_rfl) fun a hE => ?_
  refine st_cut 3 (fun a w => Env 33 a [(16, .bool ((decide (x1 < 0)) || (decide (x2 < 0)))), (0, .slice a0 x0.length k0), (1, .int .i64 x1), (2, .int .i64 x2)] ∧ Sep [] w0 w [.ro F0 (Rd F0 13 a0 x0.length k0 (x0.map api_Dir.enc))]) ?_ ?_
  · rcases Bool.eq_false_or_eq_true (decide (x1 < 0)) with hb | hb
    · have hE := hE.bool (t := 13) rfl hb
      refine st_not hE rfl 14 rfl rfl fun a hE => ?_
      refine st_not hE rfl 15 rfl rfl fun a hE => ?_
      refine st_pure hE rfl 16 rfl rfl (.bool true) (by kernel_rfl) fun a hE => ?_
      have hE := hE.re (t := 16) rfl (congrArg Value.bool (or_t (e := (decide (x2 < 0))) hb))
      exact st_nil (n_then ⟨hE.sel ⟨rfl, rfl, rfl, rfl, trivial⟩, hS⟩)
    · have hE := hE.bool (t := 13) rfl hb
      refine st_pure hE rfl 14 rfl rfl (.int .i64 x2) (by kernel_rfl) fun a hE => ?_
      refine st_pure hE rfl 15 rfl rfl (.bool (decide (x2 < 0))) (by kernel_rfl) fun a hE => ?_
      refine st_pure hE rfl 16 rfl rfl (.bool (decide (x2 < 0))) (by kernel_rfl) fun a hE => ?_
      have hE := hE.re (t := 16) rfl (congrArg Value.bool (or_f (e := (decide (x2 < 0))) hb))
      exact st_nil (n_then ⟨hE.sel ⟨rfl, rfl, rfl, rfl, trivial⟩, hS⟩)
  rintro a w ⟨hE, hS⟩
  refine st_nil ?_
  refine n_then ?_
  rcases Bool.eq_false_or_eq_true ((decide (x1 < 0)) || (decide (x2 < 0))) with hb | hb
  · have hF := if_t hF hb
    refine c_true hE rfl hb ?_
    refine wp_seq ?_
    refine r_list ?_
    refine st_pure hE rfl 6 rfl rfl (S []) (by kernel_rfl) fun a hE => ?_
    refine st_pure hE rfl 7 rfl rfl (.int .i64 1) (by kernel_rfl) fun a hE => ?_
    refine st_nil ?_
    refine n_then ?_
    refine wp_ret ?_
    obtain rfl := Option.some.inj hF
    refine r_then ?_
    exact out (rs := [.tmp 6, .tmp 7]) (vs := [S [], .int .i64 1]) rfl hE hS (.cons (.tmp rfl) (.cons (.tmp rfl) .nil)) ⟨rfl, hS.pick [] rfl rfl⟩
  have hF := if_f hF hb
  refine c_false hE rfl hb ?_
  refine wp_skip ?_
  refine n_then ?_
  refine wp_seq ?_
  refine r_list ?_
  refine st_pure hE rfl 18 rfl rfl (.slice a0 x0.length k0) (by kernel_rfl) fun a hE => ?_
  obtain ⟨y1, h1, hF⟩ := bind_some hF
  refine go_call hE rfl 19 rfl rfl 46 _ (by kernel_rfl) (W_dirread_contents x0 _ h1 _ (hS.in_ (i := 0) rfl .ro)) fun a v w hR hE => ?_
  obtain ⟨A1, c1, rfl, hq⟩ := hR
  have hS := hS.call hq rfl
  refine st_pure hE rfl 17 rfl rfl (.tuple #[S y1.1, .slice A1 y1.2.1.length c1, .int .i64 y1.2.2]) (by kernel_rfl) fun a hE => ?_
  refine st_pure hE rfl 20 rfl rfl (S y1.1) (by kernel_rfl) fun a hE => ?_
  refine st_pure hE rfl 21 rfl rfl (.slice A1 y1.2.1.length c1) (by kernel_rfl) fun a hE => ?_
  refine st_pure hE rfl 22 rfl rfl (.int .i64 y1.2.2) (by kernel_rfl) fun a hE => ?_
  refine st_pure hE rfl 8 rfl rfl (S y1.1) (by kernel_rfl) fun a hE => ?_
  refine st_pure hE rfl 9 rfl rfl (.slice A1 y1.2.1.length c1) (by kernel_rfl) fun a hE => ?_
  refine st_pure hE rfl 10 rfl rfl (.int .i64 y1.2.2) (by kernel_rfl) fun a hE => ?_
  refine st_nil ?_
  refine n_then ?_
  refine wp_seq ?_
  refine wp_seq ?_
  refine r_list ?_
  refine st_pure hE rfl 23 rfl rfl (.int .i64 y1.2.2) (by kernel_rfl) fun a hE => ?_
  refine st_pure hE rfl 24 rfl rfl (.bool (y1.2.2 != 0)) (by kernel_rfl) fun a hE => ?_
  refine st_nil ?_
  refine n_then ?_
  rcases Bool.eq_false_or_eq_true (y1.2.2 != 0) with hb | hb
  · have hF := if_t hF hb
    refine c_true hE rfl hb ?_
    refine wp_seq ?_
    refine r_list ?_
    refine st_pure hE rfl 25 rfl rfl (.int .i64 y1.2.2) (by kernel_rfl) fun a hE => ?_
    refine st_pure hE rfl 6 rfl rfl (S []) (by kernel_rfl) fun a hE => ?_
    refine st_pure hE rfl 7 rfl rfl (.int .i64 y1.2.2) (by kernel_rfl) fun a hE => ?_
    refine st_nil ?_
    refine n_then ?_
    refine wp_ret ?_
    obtain rfl := Option.some.inj hF
    refine r_then ?_
    exact out (rs := [.tmp 6, .tmp 7]) (vs := [S [], .int .i64 y1.2.2]) rfl hE hS (.cons (.tmp rfl) (.cons (.tmp rfl) .nil)) ⟨rfl, hS.pick [] rfl rfl⟩
  have hF := if_f hF hb
  refine c_false hE rfl hb ?_
  refine wp_skip ?_
  refine n_then ?_
  refine wp_seq ?_
  refine r_list ?_
  refine st_pure hE rfl 26 rfl rfl (S y1.1) (by kernel_rfl) fun a hE => ?_
  refine st_pure hE rfl 27 rfl rfl (.slice A1 y1.2.1.length c1) (by kernel_rfl) fun a hE => ?_
  refine st_pure hE rfl 28 rfl rfl (.int .i64 x1) (by kernel_rfl) fun a hE => ?_
  refine st_pure hE rfl 29 rfl rfl (.int .i64 x2) (by kernel_rfl) fun a hE => ?_
  obtain ⟨y2, h2, hF⟩ := bind_some hF
  refine go_call hE rfl 30 rfl rfl 47 _ (by kernel_rfl) (W_dirread_page y1.1 y1.2.1 x1 x2 _ h2 _ (hS.in_ (i := 0) rfl .row)) fun a v w hR hE => ?_
  obtain ⟨rfl, hq⟩ := hR
  have hS := hS.call hq rfl
  refine st_pure hE rfl 31 rfl rfl (S y2.1) (by kernel_rfl) fun a hE => ?_
  refine st_pure hE rfl 32 rfl rfl (.int .i64 y2.2) (by kernel_rfl) fun a hE => ?_
  refine st_pure hE rfl 6 rfl rfl (S y2.1) (by kernel_rfl) fun a hE => ?_
  refine st_pure hE rfl 7 rfl rfl (.int .i64 y2.2) (by kernel_rfl) fun a hE => ?_
  refine st_nil ?_
  refine n_then ?_
  refine wp_ret ?_
  obtain rfl := Option.some.inj hF
  exact out (rs := [.tmp 6, .tmp 7]) (vs := [S y2.1, .int .i64 y2.2]) rfl hE hS (.cons (.tmp rfl) (.cons (.tmp rfl) .nil)) ⟨rfl, hS.pick [] rfl rfl⟩
/-- filespace/dirread.All -/
theorem W_dirread_All (x0 : List api_Dir) (x1 : Int) (r : Str × Int) (hF : dirread_All x0 x1 = some r) (w0 : World) {a0 : Option Addr} {k0 : Nat} {F0 : Nat → Prop} (hs0 : In F0 13 a0 x0.length k0 (x0.map api_Dir.enc) w0) : Ret Try.prog 25 #[.slice a0 x0.length k0, .int .i64 x1] w0 fun v w => v = .tuple #[S r.1, .int .i64 r.2] ∧ Sep [] w0 w [] := by
  refine enter Try.func25 rfl rfl rfl fun a hE => ?_
  have hS := Sep.start [] w0
  have hS := hS.lent hs0
  unfold dirread_All at hF
  refine wp_seq ?_
  refine r_list ?_
  refine st_pure hE rfl 4 rfl rfl (S []) (by kernel_rfl) fun a hE => ?_
  refine st_pure hE rfl 5 rfl rfl (.int .i64 0) (by kernel_rfl) fun a hE => ?_
  refine st_nil ?_
  refine n_then ?_
  refine wp_seq ?_
  refine wp_seq ?_
  refine r_list ?_
  refine st_pure hE rfl 12 rfl rfl (.int .i64 x1) (by kernel_rfl) fun a hE => ?_
  refine st_pure hE rfl 13 rfl rfl (.bool (decide (x1 < 0))) (by kernel_rfl) fun a hE => ?_
  refine st_nil ?_
  refine n_then ?_
  rcases Bool.eq_false_or_eq_true (decide (x1 < 0)) with hb | hb
  · have hF := if_t hF hb
    refine c_true hE rfl hb ?_
    refine wp_seq ?_
    refine r_list ?_
    refine st_pure hE rfl 4 rfl rfl (S []) (by kernel_rfl) fun a hE => ?_
    refine st_pure hE rfl 5 rfl rfl (.int .i64 1) (by kernel_rfl) fun a hE => ?_
    refine st_nil ?_
    refine n_then ?_
    refine wp_ret ?_
    obtain rfl := Option.some.inj hF
    refine r_then ?_
    exact out (rs := [.tmp 4, .tmp 5]) (vs := [S [], .int .i64 1]) rfl hE hS (.cons (.tmp rfl) (.cons (.tmp rfl) .nil)) ⟨rfl, hS.pick [] rfl rfl⟩
  have hF := if_f hF hb
  refine c_false hE rfl hb ?_
  refine wp_skip ?_
  refine n_then ?_
  refine wp_seq ?_
  refine r_list ?_
  refine st_pure hE rfl 15 rfl rfl (.slice a0 x0.length k0) (by kernel_rfl) fun a hE => ?_
  obtain ⟨y1, h1, hF⟩ := bind_some hF
  refine go_call hE rfl 16 rfl rfl 46 _ (by kernel_rfl) (W_dirread_contents x0 _ h1 _ (hS.in_ (i := 0) rfl .ro)) fun a v w hR hE => ?_
  obtain ⟨A1, c1, rfl, hq⟩ := hR
  have hS := hS.call hq rfl
  refine st_pure hE rfl 14 rfl rfl (.tuple #[S y1.1, .slice A1 y1.2.1.length c1, .int .i64 y1.2.2]) (by kernel_rfl) fun a hE => ?_
  refine st_pure hE rfl 17 rfl rfl (S y1.1) (by kernel_rfl) fun a hE => ?_
  refine st_pure hE rfl 18 rfl rfl (.slice A1 y1.2.1.length c1) (by kernel_rfl) fun a hE => ?_
  refine st_pure hE rfl 19 rfl rfl (.int .i64 y1.2.2) (by kernel_rfl) fun a hE => ?_
  refine st_pure hE rfl 6 rfl rfl (S y1.1) (by kernel_rfl) fun a hE => ?_
  refine st_pure hE rfl 7 rfl rfl (.slice A1 y1.2.1.length c1) (by kernel_rfl) fun a hE => ?_
  refine st_pure hE rfl 8 rfl rfl (.int .i64 y1.2.2) (by kernel_rfl) fun a hE => ?_
  refine st_nil ?_
  refine n_then ?_
  refine wp_seq ?_
  refine wp_seq ?_
  refine r_list ?_
  refine st_pure hE rfl 20 rfl rfl (.int .i64 y1.2.2) (by kernel_rfl) fun a hE => ?_
  refine st_pure hE rfl 21 rfl rfl (.bool (y1.2.2 != 0)) (by kernel_rfl) fun a hE => ?_
  refine st_nil ?_
  refine n_then ?_
  rcases Bool.eq_false_or_eq_true (y1.2.2 != 0) with hb | hb
  · have hF := if_t hF hb
    refine c_true hE rfl hb ?_
    refine wp_seq ?_
    refine r_list ?_
    refine st_pure hE rfl 22 rfl rfl (.int .i64 y1.2.2) (by kernel_rfl) fun a hE => ?_
    refine st_pure hE rfl 4 rfl rfl (S []) (by kernel_rfl) fun a hE => ?_
    refine st_pure hE rfl 5 rfl rfl (.int .i64 y1.2.2) (by kernel_rfl) fun a hE => ?_
    refine st_nil ?_
    refine n_then ?_
    refine wp_ret ?_
    obtain rfl := Option.some.inj hF
    refine r_then ?_
    exact out (rs := [.tmp 4, .tmp 5]) (vs := [S [], .int .i64 y1.2.2]) rfl hE hS (.cons (.tmp rfl) (.cons (.tmp rfl) .nil)) ⟨rfl, hS.pick [] rfl rfl⟩
  have hF := if_f hF hb
  refine c_false hE rfl hb ?_
  refine wp_skip ?_
  refine n_then ?_
  refine wp_seq ?_
  refine wp_seq ?_
  refine r_list ?_
  refine st_pure hE rfl 9 rfl rfl (.int .i64 0) (by kernel_rfl) fun a hE => ?_
  refine st_nil ?_
  refine n_then ?_
  obtain ⟨o1, g1, hF⟩ := bind_some hF
  refine w_meet (fun a w => ∃ s1, o1 = .fall s1 ∧ Env 43 a [(6, S y1.1)] ∧ Sep [] w0 w []) ?_ ?_
  · refine wp_block ?_
    refine loop_rule g1 (fun (s1 : Int) a w => Env 43 a [(1, .int .i64 x1), (6, S y1.1), (7, .slice A1 y1.2.1.length c1), (9, .int .i64 s1)] ∧ Sep [] w0 w [.row 3 1 A1 y1.2.1.length c1 (y1.2.1.map (eI .i64))]) ?_ ?_
    · exact ⟨hE.sel ⟨rfl, rfl, rfl, rfl, trivial⟩, hS.pick [0] rfl rfl⟩
    rintro s1 a w ⟨hE, hS⟩ st hB1 hD1
    unfold dirread_All_L1 at hB1
    refine wp_seq ?_
    refine wp_seq ?_
    refine r_list ?_
    refine st_pure hE rfl 23 rfl rfl (.int .i64 s1) (by kernel_rfl) fun a hE => ?_
    refine st_pure hE rfl 24 rfl rfl (S y1.1) (by kernel_rfl) fun a hE => ?_
    refine st_pure hE rfl 25 rfl rfl (.int .i64 (y1.1.length : Int)) (by kernel_rfl) fun a hE => ?_
    refine st_pure hE rfl 26 rfl rfl (.bool (decide (s1 < (y1.1.length : Int)))) (by kernel_rfl) fun a hE => ?_
    refine st_nil ?_
    refine n_then ?_
    rcases (Bool.eq_false_or_eq_true (decide (s1 < (y1.1.length : Int)))).symm with hb | hb
    · have hB1 := if_f hB1 hb
      refine c_false hE rfl hb ?_
      refine wp_exit ?_
      refine e_then (e_then (e_in ?_))
      obtain rfl := Option.some.inj hB1
      have hd := hD1 _ rfl
      subst hd
      refine n_then ?_
      exact ⟨_, rfl, hE.sel ⟨rfl, trivial⟩, hS.pick [] rfl rfl⟩
    have hB1 := if_t hB1 hb
    refine c_true hE rfl hb ?_
    refine wp_skip ?_
    refine n_then ?_
    refine wp_block ?_
    refine wp_seq ?_
    refine r_list ?_
    refine st_pure hE rfl 28 rfl rfl (S y1.1) (by kernel_rfl) fun a hE => ?_
    refine st_pure hE rfl 29 rfl rfl (.slice A1 y1.2.1.length c1) (by kernel_rfl) fun a hE => ?_
    refine st_pure hE rfl 30 rfl rfl (.int .i64 s1) (by kernel_rfl) fun a hE => ?_
    refine st_pure hE rfl 31 rfl rfl (.int .i64 x1) (by kernel_rfl) fun a hE => ?_
    obtain ⟨y2, h2, hB1⟩ := bind_some hB1
    refine go_call hE rfl 32 rfl rfl 47 _ (by kernel_rfl) (W_dirread_page y1.1 y1.2.1 s1 x1 _ h2 _ (hS.in_ (i := 0) rfl .row)) fun a v w hR hE => ?_
    obtain ⟨rfl, hq⟩ := hR
    have hS := hS.call hq rfl
    refine st_pure hE rfl 27 rfl rfl (.tuple #[S y2.1, .int .i64 y2.2]) (by kernel_rfl) fun a hE => ?_
    refine st_pure hE rfl 33 rfl rfl (S y2.1) (by kernel_rfl) fun a hE => ?_
    refine st_pure hE rfl 34 rfl rfl (.int .i64 y2.2) (by kernel_rfl) fun a hE => ?_
    refine st_pure hE rfl 10 rfl rfl (S y2.1) (by kernel_rfl) fun a hE => ?_
    refine st_pure hE rfl 11 rfl rfl (.int .i64 y2.2) (by kernel_rfl) fun a hE => ?_
    refine st_nil ?_
    refine n_then ?_
    refine wp_seq ?_
    refine wp_seq ?_
    refine r_list ?_
    refine st_pure hE rfl 35 rfl rfl (.int .i64 y2.2) (by kernel_rfl) fun a hE => ?_
    refine st_pure hE rfl 36 rfl rfl (.bool (y2.2 != 0)) (by kernel_rfl) fun a hE => ?_
    refine st_nil ?_
    refine n_then ?_
    rcases Bool.eq_false_or_eq_true (y2.2 != 0) with hb | hb
    · have hB1 := if_t hB1 hb
      refine c_true hE rfl hb ?_
      refine wp_seq ?_
      refine r_list ?_
      refine st_pure hE rfl 37 rfl rfl (.int .i64 y2.2) (by kernel_rfl) fun a hE => ?_
      refine st_pure hE rfl 4 rfl rfl (S []) (by kernel_rfl) fun a hE => ?_
      refine st_pure hE rfl 5 rfl rfl (.int .i64 y2.2) (by kernel_rfl) fun a hE => ?_
      refine st_nil ?_
      refine n_then ?_
      refine wp_ret ?_
      obtain rfl := Option.some.inj hB1
      have hd := hD1 _ rfl
      subst hd
      obtain rfl := Option.some.inj hF
      refine r_then (r_in (r_then (r_in (r_then (r_then ?_)))))
      exact out (rs := [.tmp 4, .tmp 5]) (vs := [S [], .int .i64 y2.2]) rfl hE hS (.cons (.tmp rfl) (.cons (.tmp rfl) .nil)) ⟨rfl, hS.pick [] rfl rfl⟩
    have hB1 := if_f hB1 hb
    refine c_false hE rfl hb ?_
    refine wp_skip ?_
    refine n_then ?_
    refine r_list ?_
    refine st_pure hE rfl 38 rfl rfl (.int .i64 s1) (by kernel_rfl) fun a hE => ?_
    refine st_pure hE rfl 39 rfl rfl (S y2.1) (by kernel_rfl) fun a hE => ?_
    refine st_pure hE rfl 40 rfl rfl (.int .i64 (y2.1.length : Int)) (by kernel_rfl) fun a hE => ?_
    refine st_pure hE rfl 41 rfl rfl (.int .i64 (w64 (s1 + (y2.1.length : Int)))) (by kernel_rfl) fun a hE => ?_
    refine st_pure hE rfl 9 rfl rfl (.int .i64 (w64 (s1 + (y2.1.length : Int)))) (by kernel_rfl) fun a hE => ?_
    refine st_nil ?_
    refine n_in ?_
    obtain rfl := Option.some.inj hB1
    refine n_then ?_
    exact ⟨_, rfl, hE.sel ⟨rfl, rfl, rfl, rfl, trivial⟩, hS.pick [0] rfl rfl⟩
  rintro a w ⟨s1, rfl, hE, hS⟩
  replace hF := hF
  refine n_then ?_
  refine wp_seq ?_
  refine r_list ?_
  refine st_pure hE rfl 42 rfl rfl (S y1.1) (by kernel_rfl) fun a hE => ?_
  refine st_pure hE rfl 4 rfl rfl (S y1.1) (by kernel_rfl) fun a hE => ?_
  refine st_pure hE rfl 5 rfl rfl (.int .i64 0) (by kernel_rfl) fun a hE => ?_
  refine st_nil ?_
  refine n_then ?_
  refine wp_ret ?_
  obtain rfl := Option.some.inj hF
  exact out (rs := [.tmp 4, .tmp 5]) (vs := [S y1.1, .int .i64 0]) rfl hE hS (.cons (.tmp rfl) (.cons (.tmp rfl) .nil)) ⟨rfl, hS.pick [] rfl rfl⟩
/-- filespace/filespacelaw11.awake -/
theorem W_law11_awake  (r : Bool) (hF : law11_awake = some r) (w0 : World)  : Ret Try.prog 18 #[] w0 fun v w => v = .bool r ∧ Sep [] w0 w [] := by
  refine enter Try.func18 rfl rfl rfl fun a hE => ?_
  have hS := Sep.start [] w0
  unfold law11_awake at hF
  refine wp_seq ?_
  refine r_list ?_
  refine st_pure hE rfl 0 rfl rfl (.bool false) (by kernel_rfl) fun a hE => ?_
  refine st_nil ?_
  refine n_then ?_
  refine wp_seq ?_
  refine r_list ?_
  obtain ⟨y1, h1, hF⟩ := bind_some hF
  refine go_call hE rfl 12 rfl rfl 45 _ (by kernel_rfl) (W_law11_node  _ h1 _ ) fun a v w hR hE => ?_
  obtain ⟨rfl, hq⟩ := hR
  have hS := hS.call hq rfl
  obtain ⟨y2, h2, hF⟩ := bind_some hF
  refine go_call hE rfl 13 rfl rfl 16 _ (by kernel_rfl) (W_dirread_Stat y1 7 _ h2 _ ) fun a v w hR hE => ?_
  obtain ⟨rfl, hq⟩ := hR
  have hS := hS.call hq rfl
  refine go_box hE hS rfl 1 rfl rfl 27 (api_Dir.enc (api_Dir.mk 0 0 (api_Qid.mk 0 0 0) 0 0 0 0 [] [] [] [])) (fun _ => by kernel_rfl) fun a w b1 hx hE hS => ?_
  refine go_set (L' := [.box b1 27 (api_Dir.enc y2)]) hE hS rfl rfl 0 rfl rfl rfl rfl (by kernel_rfl) (by kernel_rfl) (by kernel_rfl) (api_Dir.enc y2) (by kernel_rfl) rfl fun w hS => ?_
  refine st_nil ?_
  refine n_then ?_
  refine wp_seq ?_
  refine wp_seq ?_
  refine r_list ?_
  refine st_run hE rfl 14 rfl rfl (.agg (api_Dir.enc y2).toArray) (ld_box hE hS 0 rfl rfl rfl (by kernel_rfl)) fun a hE => ?_
  refine st_pure hE rfl 15 rfl rfl (.agg (api_Qid.enc (api_Qid.mk 0 2 3)).toArray) (by kernel_rfl) fun a hE => ?_
  refine st_pure hE rfl 16 rfl rfl (.agg (api_Dir.enc (api_Dir.mk 1 7 (api_Qid.mk 0 2 3) 420 5 6 3 [102] [97, 110, 110] [97, 100, 109] [98, 111, 98])).toArray) (by kernel_rfl) fun a hE => ?_
  refine st_run hE rfl 17 rfl rfl (.bool (!(decide (y2 = (api_Dir.mk 1 7 (api_Qid.mk 0 2 3) 420 5 6 3 [102] [97, 110, 110] [97, 100, 109] [98, 111, 98]))))) (run_agg_neq rfl (hE.eval rfl) (hE.eval rfl) (api_Dir_eqIs _ _)) fun a hE => ?_
  refine st_nil ?_
  refine n_then ?_
  rcases Bool.eq_false_or_eq_true (!(decide (y2 = (api_Dir.mk 1 7 (api_Qid.mk 0 2 3) 420 5 6 3 [102] [97, 110, 110] [97, 100, 109] [98, 111, 98])))) with hb | hb
  · have hF := if_t hF hb
    refine c_true hE rfl hb ?_
    refine wp_seq ?_
    refine r_list ?_
    refine st_pure hE rfl 0 rfl rfl (.bool false) (by kernel_rfl) fun a hE => ?_
    refine st_nil ?_
    refine n_then ?_
    refine wp_ret ?_
    obtain rfl := Option.some.inj hF
    refine r_then ?_
    exact out (rs := [.tmp 0]) (vs := [.bool false]) rfl hE hS (.cons (.tmp rfl) .nil) ⟨rfl, hS.pick [] rfl rfl⟩
  have hF := if_f hF hb
  refine c_false hE rfl hb ?_
  refine wp_skip ?_
  refine n_then ?_
  refine wp_seq ?_
  refine r_list ?_
  refine st_run hE rfl 19 rfl rfl (.agg (api_Dir.enc y2).toArray) (ld_box hE hS 0 rfl rfl rfl (by kernel_rfl)) fun a hE => ?_
  refine st_run hE rfl 20 rfl rfl (.agg (api_Dir.enc y2).toArray) (ld_box hE hS 0 rfl rfl rfl (by kernel_rfl)) fun a hE => ?_
  refine go_slice hE hS rfl 21 rfl rfl 27 13 2 ([y2, y2].map api_Dir.enc) (fun _ => by kernel_rfl) rfl (fun r hr => by obtain ⟨_, _, rfl⟩ := List.mem_map.1 hr; rfl) rfl fun a w A1 hx hE hS => ?_
  obtain ⟨y3, h3, hF⟩ := bind_some hF
  refine go_call hE rfl 22 rfl rfl 22 _ (by kernel_rfl) (W_dirread_Bounds [y2, y2] _ h3 _ (hS.in_ (i := 0) rfl .row)) fun a v w hR hE => ?_
  obtain ⟨A2, c1, rfl, hq⟩ := hR
  have hS := hS.call hq rfl
  refine st_pure hE rfl 18 rfl rfl (.tuple #[.slice A2 y3.1.length c1, .int .i64 y3.2]) (by kernel_rfl) fun a hE => ?_
  refine st_pure hE rfl 23 rfl rfl (.slice A2 y3.1.length c1) (by kernel_rfl) fun a hE => ?_
  refine st_pure hE rfl 24 rfl rfl (.int .i64 y3.2) (by kernel_rfl) fun a hE => ?_
  refine st_pure hE rfl 2 rfl rfl (.slice A2 y3.1.length c1) (by kernel_rfl) fun a hE => ?_
  refine st_pure hE rfl 3 rfl rfl (.int .i64 y3.2) (by kernel_rfl) fun a hE => ?_
  refine st_nil ?_
  refine n_then ?_
  refine wp_seq ?_
  refine wp_seq ?_
  refine r_mix [] [(0, false), (1, false), (2, false), (3, false), (4, false), (5, false), (6, false), (7, false), (8, false), (9, false), (10, false), (11, false), (12, false), (13, false), (14, false), (15, false), (16, false), (17, false), (18, false), (19, false), (20, false), (21, false), (22, false), (23, false), (24, false), (25, false), (26, false), (27, false), (28, false), (29, false), (30, false), (31, false)] rfl (by kernel_rfl) ?_
  have hW := hS
  have hX := hS.now
  refine mx_pure hE rfl rfl 25 rfl rfl (.int .i64 y3.2) (by kernel_rfl) fun a hE => ?_
  refine mx_pure hE rfl rfl 26 rfl rfl (.bool (y3.2 != 0)) (by kernel_rfl) fun a hE => ?_
  refine mx_pure hE rfl rfl 27 rfl rfl (.bool (y3.2 != 0)) (by kernel_rfl) fun a hE => ?_
  refine mx_cut 4 (fun a => Env 127 a [(31, .bool ((y3.2 != 0) || ((y3.1.length : Int) != 3))), (1, .pointer (some ⟨b1, 0, none⟩)), (2, .slice A2 y3.1.length c1)]) rfl ?_ (fun a hE => ?_)
  · rcases Bool.eq_false_or_eq_true (y3.2 != 0) with hb | hb
    · have hE := hE.bool (t := 27) rfl hb
      refine mx_not hE rfl rfl 28 rfl rfl fun a hE => ?_
      refine mx_not hE rfl rfl 29 rfl rfl fun a hE => ?_
      refine mx_not hE rfl rfl 30 rfl rfl fun a hE => ?_
      refine mx_pure hE rfl rfl 31 rfl rfl (.bool true) (by kernel_rfl) fun a hE => ?_
      have hE := hE.re (t := 31) rfl (congrArg Value.bool (or_t (e := ((y3.1.length : Int) != 3)) hb))
      exact mx_nil fun w hx => hE.sel ⟨rfl, rfl, rfl, trivial⟩
    · have hE := hE.bool (t := 27) rfl hb
      refine mx_pure hE rfl rfl 28 rfl rfl (.slice A2 y3.1.length c1) (by kernel_rfl) fun a hE => ?_
      refine mx_pure hE rfl rfl 29 rfl rfl (.int .i64 (y3.1.length : Int)) (by kernel_rfl) fun a hE => ?_
      refine mx_pure hE rfl rfl 30 rfl rfl (.bool ((y3.1.length : Int) != 3)) (by kernel_rfl) fun a hE => ?_
      refine mx_pure hE rfl rfl 31 rfl rfl (.bool ((y3.1.length : Int) != 3)) (by kernel_rfl) fun a hE => ?_
      have hE := hE.re (t := 31) rfl (congrArg Value.bool (or_f (e := ((y3.1.length : Int) != 3)) hb))
      exact mx_nil fun w hx => hE.sel ⟨rfl, rfl, rfl, trivial⟩
  refine mx_pure hE rfl rfl 32 rfl rfl (.bool ((y3.2 != 0) || ((y3.1.length : Int) != 3))) (by kernel_rfl) fun a hE => ?_
  obtain ⟨y4, h4, hF⟩ := bind_some hF
  refine mx_cut 5 (fun a => Env 127 a [(37, .bool y4), (1, .pointer (some ⟨b1, 0, none⟩)), (2, .slice A2 y3.1.length c1)]) rfl ?_ (fun a hE => ?_)
  · rcases Bool.eq_false_or_eq_true ((y3.2 != 0) || ((y3.1.length : Int) != 3)) with hb | hb
    · have hE := hE.bool (t := 32) rfl hb
      have h4 := if_t h4 hb
      refine mx_not hE rfl rfl 33 rfl rfl fun a hE => ?_
      refine mx_not hE rfl rfl 34 rfl rfl fun a hE => ?_
      refine mx_not hE rfl rfl 35 rfl rfl fun a hE => ?_
      refine mx_not hE rfl rfl 36 rfl rfl fun a hE => ?_
      refine mx_pure hE rfl rfl 37 rfl rfl (.bool true) (by kernel_rfl) fun a hE => ?_
      obtain rfl := Option.some.inj h4
      exact mx_nil fun w hx => hE.sel ⟨rfl, rfl, rfl, trivial⟩
    · have hE := hE.bool (t := 32) rfl hb
      have h4 := if_f h4 hb
      refine mx_pure hE rfl rfl 33 rfl rfl (.slice A2 y3.1.length c1) (by kernel_rfl) fun a hE => ?_
      obtain ⟨y5, h5, h4⟩ := bind_some h4
      refine mx_at (e := 3) (c := 1) hE hW rfl rfl 34 rfl rfl 0 rfl (by kernel_rfl) (by kernel_rfl) rfl rfl rfl .row rfl h5 fun a b2 p1 hA1 hE => ?_
      refine mx_run hE rfl rfl 35 rfl rfl (.int .i64 y5) (fun w hx => ld_elem (k := 0) (f := (eI .i64)) (j := 0) hE (hW.ext hx) rfl rfl rfl .row hA1 h5 rfl (by kernel_rfl)) fun a hE => ?_
      refine mx_pure hE rfl rfl 36 rfl rfl (.bool (y5 != 0)) (by kernel_rfl) fun a hE => ?_
      refine mx_pure hE rfl rfl 37 rfl rfl (.bool (y5 != 0)) (by kernel_rfl) fun a hE => ?_
      obtain rfl := Option.some.inj h4
      exact mx_nil fun w hx => hE.sel ⟨rfl, rfl, rfl, trivial⟩
  refine mx_pure hE rfl rfl 38 rfl rfl (.bool y4) (by kernel_rfl) fun a hE => ?_
  obtain ⟨y6, h6, hF⟩ := bind_some hF
  refine mx_cut 5 (fun a => Env 127 a [(43, .bool y6), (1, .pointer (some ⟨b1, 0, none⟩)), (2, .slice A2 y3.1.length c1)]) rfl ?_ (fun a hE => ?_)
  · rcases Bool.eq_false_or_eq_true y4 with hb | hb
    · have hE := hE.bool (t := 38) rfl hb
      have h6 := if_t h6 hb
      refine mx_not hE rfl rfl 39 rfl rfl fun a hE => ?_
      refine mx_not hE rfl rfl 40 rfl rfl fun a hE => ?_
      refine mx_not hE rfl rfl 41 rfl rfl fun a hE => ?_
      refine mx_not hE rfl rfl 42 rfl rfl fun a hE => ?_
      refine mx_pure hE rfl rfl 43 rfl rfl (.bool true) (by kernel_rfl) fun a hE => ?_
      obtain rfl := Option.some.inj h6
      exact mx_nil fun w hx => hE.sel ⟨rfl, rfl, rfl, trivial⟩
    · have hE := hE.bool (t := 38) rfl hb
      have h6 := if_f h6 hb
      refine mx_pure hE rfl rfl 39 rfl rfl (.slice A2 y3.1.length c1) (by kernel_rfl) fun a hE => ?_
      obtain ⟨y7, h7, h6⟩ := bind_some h6
      refine mx_at (e := 3) (c := 1) hE hW rfl rfl 40 rfl rfl 0 rfl (by kernel_rfl) (by kernel_rfl) rfl rfl rfl .row rfl h7 fun a b3 p2 hA2 hE => ?_
      refine mx_run hE rfl rfl 41 rfl rfl (.int .i64 y7) (fun w hx => ld_elem (k := 0) (f := (eI .i64)) (j := 0) hE (hW.ext hx) rfl rfl rfl .row hA2 h7 rfl (by kernel_rfl)) fun a hE => ?_
      refine mx_pure hE rfl rfl 42 rfl rfl (.bool (decide (y7 ≤ 0))) (by kernel_rfl) fun a hE => ?_
      refine mx_pure hE rfl rfl 43 rfl rfl (.bool (decide (y7 ≤ 0))) (by kernel_rfl) fun a hE => ?_
      obtain rfl := Option.some.inj h6
      exact mx_nil fun w hx => hE.sel ⟨rfl, rfl, rfl, trivial⟩
  refine mx_pure hE rfl rfl 44 rfl rfl (.bool y6) (by kernel_rfl) fun a hE => ?_
  obtain ⟨y8, h8, hF⟩ := bind_some hF
  refine mx_cut 12 (fun a => Env 127 a [(56, .bool y8), (1, .pointer (some ⟨b1, 0, none⟩)), (2, .slice A2 y3.1.length c1)]) rfl ?_ (fun a hE => ?_)
  · rcases Bool.eq_false_or_eq_true y6 with hb | hb
    · have hE := hE.bool (t := 44) rfl hb
      have h8 := if_t h8 hb
      refine mx_not hE rfl rfl 45 rfl rfl fun a hE => ?_
      refine mx_not hE rfl rfl 46 rfl rfl fun a hE => ?_
      refine mx_not hE rfl rfl 47 rfl rfl fun a hE => ?_
      refine mx_not hE rfl rfl 48 rfl rfl fun a hE => ?_
      refine mx_not hE rfl rfl 49 rfl rfl fun a hE => ?_
      refine mx_not hE rfl rfl 50 rfl rfl fun a hE => ?_
      refine mx_not hE rfl rfl 51 rfl rfl fun a hE => ?_
      refine mx_not hE rfl rfl 52 rfl rfl fun a hE => ?_
      refine mx_not hE rfl rfl 53 rfl rfl fun a hE => ?_
      refine mx_not hE rfl rfl 54 rfl rfl fun a hE => ?_
      refine mx_not hE rfl rfl 55 rfl rfl fun a hE => ?_
      refine mx_pure hE rfl rfl 56 rfl rfl (.bool true) (by kernel_rfl) fun a hE => ?_
      obtain rfl := Option.some.inj h8
      exact mx_nil fun w hx => hE.sel ⟨rfl, rfl, rfl, trivial⟩
    · have hE := hE.bool (t := 44) rfl hb
      have h8 := if_f h8 hb
      refine mx_pure hE rfl rfl 45 rfl rfl (.slice A2 y3.1.length c1) (by kernel_rfl) fun a hE => ?_
      obtain ⟨y9, h9, h8⟩ := bind_some h8
      refine mx_at (e := 3) (c := 1) hE hW rfl rfl 46 rfl rfl 0 rfl (by kernel_rfl) (by kernel_rfl) rfl rfl rfl .row rfl h9 fun a b4 p3 hA3 hE => ?_
      refine mx_run hE rfl rfl 47 rfl rfl (.int .i64 y9) (fun w hx => ld_elem (k := 0) (f := (eI .i64)) (j := 0) hE (hW.ext hx) rfl rfl rfl .row hA3 h9 rfl (by kernel_rfl)) fun a hE => ?_
      refine mx_pure hE rfl rfl 48 rfl rfl (.slice A2 y3.1.length c1) (by kernel_rfl) fun a hE => ?_
      obtain ⟨y10, h10, h8⟩ := bind_some h8
      refine mx_at (e := 3) (c := 1) hE hW rfl rfl 49 rfl rfl 0 rfl (by kernel_rfl) (by kernel_rfl) rfl rfl rfl .row rfl h10 fun a b5 p4 hA4 hE => ?_
      refine mx_run hE rfl rfl 50 rfl rfl (.int .i64 y10) (fun w hx => ld_elem (k := 0) (f := (eI .i64)) (j := 0) hE (hW.ext hx) rfl rfl rfl .row hA4 h10 rfl (by kernel_rfl)) fun a hE => ?_
      refine mx_pure hE rfl rfl 51 rfl rfl (.int .i64 (w64 (y9 - y10))) (by kernel_rfl) fun a hE => ?_
      refine mx_pure hE rfl rfl 52 rfl rfl (.slice A2 y3.1.length c1) (by kernel_rfl) fun a hE => ?_
      obtain ⟨y11, h11, h8⟩ := bind_some h8
      refine mx_at (e := 3) (c := 1) hE hW rfl rfl 53 rfl rfl 0 rfl (by kernel_rfl) (by kernel_rfl) rfl rfl rfl .row rfl h11 fun a b6 p5 hA5 hE => ?_
      refine mx_run hE rfl rfl 54 rfl rfl (.int .i64 y11) (fun w hx => ld_elem (k := 0) (f := (eI .i64)) (j := 0) hE (hW.ext hx) rfl rfl rfl .row hA5 h11 rfl (by kernel_rfl)) fun a hE => ?_
      refine mx_pure hE rfl rfl 55 rfl rfl (.bool ((w64 (y9 - y10)) != y11)) (by kernel_rfl) fun a hE => ?_
      refine mx_pure hE rfl rfl 56 rfl rfl (.bool ((w64 (y9 - y10)) != y11)) (by kernel_rfl) fun a hE => ?_
      obtain rfl := Option.some.inj h8
      exact mx_nil fun w hx => hE.sel ⟨rfl, rfl, rfl, trivial⟩
  refine mx_nil fun w hx => ?_
  have hS := hS.ext hx
  refine n_then ?_
  rcases Bool.eq_false_or_eq_true y8 with hb | hb
  · have hF := if_t hF hb
    refine c_true hE rfl hb ?_
    refine wp_seq ?_
    refine r_list ?_
    refine st_pure hE rfl 0 rfl rfl (.bool false) (by kernel_rfl) fun a hE => ?_
    refine st_nil ?_
    refine n_then ?_
    refine wp_ret ?_
    obtain rfl := Option.some.inj hF
    refine r_then ?_
    exact out (rs := [.tmp 0]) (vs := [.bool false]) rfl hE hS (.cons (.tmp rfl) .nil) ⟨rfl, hS.pick [] rfl rfl⟩
  have hF := if_f hF hb
  refine c_false hE rfl hb ?_
  refine wp_skip ?_
  refine n_then ?_
  refine wp_seq ?_
  refine r_mix [] [(0, false), (1, false), (3, false), (4, false), (5, false), (6, false), (7, false), (8, false), (2, true), (9, true), (10, false), (11, false), (12, false), (13, false), (14, false)] rfl (by kernel_rfl) ?_
  have hW := hS
  have hX := hS.now
  refine mx_run hE rfl rfl 58 rfl rfl (.agg (api_Dir.enc y2).toArray) (fun w hx => ld_box hE (hW.ext hx) 2 rfl rfl rfl (by kernel_rfl)) fun a hE => ?_
  refine mx_run hE rfl rfl 59 rfl rfl (.agg (api_Dir.enc y2).toArray) (fun w hx => ld_box hE (hW.ext hx) 2 rfl rfl rfl (by kernel_rfl)) fun a hE => ?_
  refine mx_pure hE rfl rfl 61 rfl rfl (.slice A2 y3.1.length c1) (by kernel_rfl) fun a hE => ?_
  obtain ⟨y12, h12, hF⟩ := bind_some hF
  refine mx_at (e := 3) (c := 1) hE hW rfl rfl 62 rfl rfl 0 rfl (by kernel_rfl) (by kernel_rfl) rfl rfl rfl .row rfl h12 fun a b7 p6 hA6 hE => ?_
  refine mx_run hE rfl rfl 63 rfl rfl (.int .i64 y12) (fun w hx => ld_elem (k := 0) (f := (eI .i64)) (j := 0) hE (hW.ext hx) rfl rfl rfl .row hA6 h12 rfl (by kernel_rfl)) fun a hE => ?_
  refine mx_pure hE rfl rfl 64 rfl rfl (.slice A2 y3.1.length c1) (by kernel_rfl) fun a hE => ?_
  obtain ⟨y13, h13, hF⟩ := bind_some hF
  refine mx_at (e := 3) (c := 1) hE hW rfl rfl 65 rfl rfl 0 rfl (by kernel_rfl) (by kernel_rfl) rfl rfl rfl .row rfl h13 fun a b8 p7 hA7 hE => ?_
  refine mx_run hE rfl rfl 66 rfl rfl (.int .i64 y13) (fun w hx => ld_elem (k := 0) (f := (eI .i64)) (j := 0) hE (hW.ext hx) rfl rfl rfl .row hA7 h13 rfl (by kernel_rfl)) fun a hE => ?_
  refine mx_loud rfl fun w hx => ?_
  have hS := hS.ext hx
  have hX := hX.trans hx
  refine go_slice hE hS rfl 60 rfl rfl 27 13 2 ([y2, y2].map api_Dir.enc) (fun _ => by kernel_rfl) rfl (fun r hr => by obtain ⟨_, _, rfl⟩ := List.mem_map.1 hr; rfl) rfl fun a w A3 hx hE hS => ?_
  have hX := hX.trans hx
  refine st_nil (n_then ⟨fun _ => hX, ?_⟩)
  refine mx_loud rfl fun w hx => ?_
  have hS := hS.ext hx
  have hX := hX.trans hx
  obtain ⟨y14, h14, hF⟩ := bind_some hF
  refine go_call hE rfl 67 rfl rfl 20 _ (by kernel_rfl) (W_dirread_Page [y2, y2] y12 y13 _ h14 _ (hS.in_ (i := 0) rfl .row)) fun a v w hR hE => ?_
  obtain ⟨rfl, hq⟩ := hR
  have hX := hX.trans (Ext.of_sep hq)
  have hS := hS.call hq rfl
  refine st_nil (n_then ⟨fun _ => hX, ?_⟩)
  refine mx_pure hE rfl rfl 57 rfl rfl (.tuple #[S y14.1, .int .i64 y14.2]) (by kernel_rfl) fun a hE => ?_
  refine mx_pure hE rfl rfl 68 rfl rfl (S y14.1) (by kernel_rfl) fun a hE => ?_
  refine mx_pure hE rfl rfl 69 rfl rfl (.int .i64 y14.2) (by kernel_rfl) fun a hE => ?_
  refine mx_pure hE rfl rfl 4 rfl rfl (S y14.1) (by kernel_rfl) fun a hE => ?_
  refine mx_pure hE rfl rfl 5 rfl rfl (.int .i64 y14.2) (by kernel_rfl) fun a hE => ?_
  refine mx_nil fun w hx => ?_
  have hS := hS.ext hx
  refine n_then ?_
  refine wp_seq ?_
  refine r_list ?_
  refine st_run hE rfl 71 rfl rfl (.agg (api_Dir.enc y2).toArray) (ld_box hE hS 3 rfl rfl rfl (by kernel_rfl)) fun a hE => ?_
  refine st_run hE rfl 72 rfl rfl (.agg (api_Dir.enc y2).toArray) (ld_box hE hS 3 rfl rfl rfl (by kernel_rfl)) fun a hE => ?_
  refine go_slice hE hS rfl 73 rfl rfl 27 13 2 ([y2, y2].map api_Dir.enc) (fun _ => by kernel_rfl) rfl (fun r hr => by obtain ⟨_, _, rfl⟩ := List.mem_map.1 hr; rfl) rfl fun a w A4 hx hE hS => ?_
  obtain ⟨y15, h15, hF⟩ := bind_some hF
  refine go_call hE rfl 74 rfl rfl 20 _ (by kernel_rfl) (W_dirread_Page [y2, y2] 1 5000 _ h15 _ (hS.in_ (i := 0) rfl .row)) fun a v w hR hE => ?_
  obtain ⟨rfl, hq⟩ := hR
  have hS := hS.call hq rfl
  refine st_pure hE rfl 70 rfl rfl (.tuple #[S y15.1, .int .i64 y15.2]) (by kernel_rfl) fun a hE => ?_
  refine st_pure hE rfl 75 rfl rfl (S y15.1) (by kernel_rfl) fun a hE => ?_
  refine st_pure hE rfl 76 rfl rfl (.int .i64 y15.2) (by kernel_rfl) fun a hE => ?_
  refine st_pure hE rfl 6 rfl rfl (S y15.1) (by kernel_rfl) fun a hE => ?_
  refine st_pure hE rfl 7 rfl rfl (.int .i64 y15.2) (by kernel_rfl) fun a hE => ?_
  refine st_nil ?_
  refine n_then ?_
  refine wp_seq ?_
  refine r_mix [] [(0, false), (1, false), (3, false), (4, false), (5, false), (6, false), (2, true), (7, true), (8, false), (9, false), (10, false), (11, false), (12, false)] rfl (by kernel_rfl) ?_
  have hW := hS
  have hX := hS.now
  refine mx_run hE rfl rfl 78 rfl rfl (.agg (api_Dir.enc y2).toArray) (fun w hx => ld_box hE (hW.ext hx) 4 rfl rfl rfl (by kernel_rfl)) fun a hE => ?_
  refine mx_run hE rfl rfl 79 rfl rfl (.agg (api_Dir.enc y2).toArray) (fun w hx => ld_box hE (hW.ext hx) 4 rfl rfl rfl (by kernel_rfl)) fun a hE => ?_
  refine mx_pure hE rfl rfl 81 rfl rfl (.slice A2 y3.1.length c1) (by kernel_rfl) fun a hE => ?_
  obtain ⟨y16, h16, hF⟩ := bind_some hF
  refine mx_at (e := 3) (c := 1) hE hW rfl rfl 82 rfl rfl 2 rfl (by kernel_rfl) (by kernel_rfl) rfl rfl rfl .row rfl h16 fun a b9 p8 hA8 hE => ?_
  refine mx_run hE rfl rfl 83 rfl rfl (.int .i64 y16) (fun w hx => ld_elem (k := 2) (f := (eI .i64)) (j := 0) hE (hW.ext hx) rfl rfl rfl .row hA8 h16 rfl (by kernel_rfl)) fun a hE => ?_
  refine mx_pure hE rfl rfl 84 rfl rfl (.int .i64 (w64 (y16 - 1))) (by kernel_rfl) fun a hE => ?_
  refine mx_loud rfl fun w hx => ?_
  have hS := hS.ext hx
  have hX := hX.trans hx
  refine go_slice hE hS rfl 80 rfl rfl 27 13 2 ([y2, y2].map api_Dir.enc) (fun _ => by kernel_rfl) rfl (fun r hr => by obtain ⟨_, _, rfl⟩ := List.mem_map.1 hr; rfl) rfl fun a w A5 hx hE hS => ?_
  have hX := hX.trans hx
  refine st_nil (n_then ⟨fun _ => hX, ?_⟩)
  refine mx_loud rfl fun w hx => ?_
  have hS := hS.ext hx
  have hX := hX.trans hx
  obtain ⟨y17, h17, hF⟩ := bind_some hF
  refine go_call hE rfl 85 rfl rfl 20 _ (by kernel_rfl) (W_dirread_Page [y2, y2] 0 (w64 (y16 - 1)) _ h17 _ (hS.in_ (i := 0) rfl .row)) fun a v w hR hE => ?_
  obtain ⟨rfl, hq⟩ := hR
  have hX := hX.trans (Ext.of_sep hq)
  have hS := hS.call hq rfl
  refine st_nil (n_then ⟨fun _ => hX, ?_⟩)
  refine mx_pure hE rfl rfl 77 rfl rfl (.tuple #[S y17.1, .int .i64 y17.2]) (by kernel_rfl) fun a hE => ?_
  refine mx_pure hE rfl rfl 86 rfl rfl (S y17.1) (by kernel_rfl) fun a hE => ?_
  refine mx_pure hE rfl rfl 87 rfl rfl (.int .i64 y17.2) (by kernel_rfl) fun a hE => ?_
  refine mx_pure hE rfl rfl 8 rfl rfl (S y17.1) (by kernel_rfl) fun a hE => ?_
  refine mx_pure hE rfl rfl 9 rfl rfl (.int .i64 y17.2) (by kernel_rfl) fun a hE => ?_
  refine mx_nil fun w hx => ?_
  have hS := hS.ext hx
  refine n_then ?_
  refine wp_seq ?_
  refine r_mix [] [(0, false), (1, false), (3, false), (4, false), (5, false), (2, true), (6, true), (7, false), (8, false), (9, false), (10, false), (11, false)] rfl (by kernel_rfl) ?_
  have hW := hS
  have hX := hS.now
  refine mx_run hE rfl rfl 89 rfl rfl (.agg (api_Dir.enc y2).toArray) (fun w hx => ld_box hE (hW.ext hx) 5 rfl rfl rfl (by kernel_rfl)) fun a hE => ?_
  refine mx_run hE rfl rfl 90 rfl rfl (.agg (api_Dir.enc y2).toArray) (fun w hx => ld_box hE (hW.ext hx) 5 rfl rfl rfl (by kernel_rfl)) fun a hE => ?_
  refine mx_pure hE rfl rfl 92 rfl rfl (.slice A2 y3.1.length c1) (by kernel_rfl) fun a hE => ?_
  obtain ⟨y18, h18, hF⟩ := bind_some hF
  refine mx_at (e := 3) (c := 1) hE hW rfl rfl 93 rfl rfl 3 rfl (by kernel_rfl) (by kernel_rfl) rfl rfl rfl .row rfl h18 fun a b10 p9 hA9 hE => ?_
  refine mx_run hE rfl rfl 94 rfl rfl (.int .i64 y18) (fun w hx => ld_elem (k := 3) (f := (eI .i64)) (j := 0) hE (hW.ext hx) rfl rfl rfl .row hA9 h18 rfl (by kernel_rfl)) fun a hE => ?_
  refine mx_loud rfl fun w hx => ?_
  have hS := hS.ext hx
  have hX := hX.trans hx
  refine go_slice hE hS rfl 91 rfl rfl 27 13 2 ([y2, y2].map api_Dir.enc) (fun _ => by kernel_rfl) rfl (fun r hr => by obtain ⟨_, _, rfl⟩ := List.mem_map.1 hr; rfl) rfl fun a w A6 hx hE hS => ?_
  have hX := hX.trans hx
  refine st_nil (n_then ⟨fun _ => hX, ?_⟩)
  refine mx_loud rfl fun w hx => ?_
  have hS := hS.ext hx
  have hX := hX.trans hx
  obtain ⟨y19, h19, hF⟩ := bind_some hF
  refine go_call hE rfl 95 rfl rfl 25 _ (by kernel_rfl) (W_dirread_All [y2, y2] y18 _ h19 _ (hS.in_ (i := 0) rfl .row)) fun a v w hR hE => ?_
  obtain ⟨rfl, hq⟩ := hR
  have hX := hX.trans (Ext.of_sep hq)
  have hS := hS.call hq rfl
  refine st_nil (n_then ⟨fun _ => hX, ?_⟩)
  refine mx_pure hE rfl rfl 88 rfl rfl (.tuple #[S y19.1, .int .i64 y19.2]) (by kernel_rfl) fun a hE => ?_
  refine mx_pure hE rfl rfl 96 rfl rfl (S y19.1) (by kernel_rfl) fun a hE => ?_
  refine mx_pure hE rfl rfl 97 rfl rfl (.int .i64 y19.2) (by kernel_rfl) fun a hE => ?_
  refine mx_pure hE rfl rfl 10 rfl rfl (S y19.1) (by kernel_rfl) fun a hE => ?_
  refine mx_pure hE rfl rfl 11 rfl rfl (.int .i64 y19.2) (by kernel_rfl) fun a hE => ?_
  refine mx_nil fun w hx => ?_
  have hS := hS.ext hx
  refine n_then ?_
  refine wp_seq ?_
  refine r_list ?_
  refine st_pure hE rfl 98 rfl rfl (S y14.1) (by kernel_rfl) fun a hE => ?_
  refine st_pure hE rfl 99 rfl rfl (.int .i64 (y14.1.length : Int)) (by kernel_rfl) fun a hE => ?_
  refine st_pure hE rfl 100 rfl rfl (.slice A2 y3.1.length c1) (by kernel_rfl) fun a hE => ?_
  obtain ⟨y20, h20, hF⟩ := bind_some hF
  refine go_at (e := 3) (c := 1) hE hS rfl 101 rfl rfl 4 rfl (by kernel_rfl) (by kernel_rfl) rfl rfl rfl .row rfl h20 fun a b11 p10 hA10 hE => ?_
  refine st_run hE rfl 102 rfl rfl (.int .i64 y20) (ld_elem (k := 4) (f := (eI .i64)) (j := 0) hE hS rfl rfl rfl .row hA10 h20 rfl (by kernel_rfl)) fun a hE => ?_
  refine st_pure hE rfl 103 rfl rfl (.bool ((y14.1.length : Int) == y20)) (by kernel_rfl) fun a hE => ?_
  refine st_pure hE rfl 104 rfl rfl (.bool ((y14.1.length : Int) == y20)) (by kernel_rfl) fun a hE => ?_
  refine st_cut 3 (fun a w => Env 127 a [(107, .bool (((y14.1.length : Int) == y20) && (y14.2 == 0))), (4, S y14.1), (7, .int .i64 y15.2), (9, .int .i64 y17.2), (10, S y19.1), (11, .int .i64 y19.2)] ∧ Sep [] w0 w [.row 27 13 A6 [y2, y2].length 2 ([y2, y2].map api_Dir.enc), .row 27 13 A5 [y2, y2].length 2 ([y2, y2].map api_Dir.enc), .row 27 13 A4 [y2, y2].length 2 ([y2, y2].map api_Dir.enc), .row 27 13 A3 [y2, y2].length 2 ([y2, y2].map api_Dir.enc), .row 3 1 A2 y3.1.length c1 (y3.1.map (eI .i64)), .row 27 13 A1 [y2, y2].length 2 ([y2, y2].map api_Dir.enc), .box b1 27 (api_Dir.enc y2)]) ?_ ?_
  · rcases Bool.eq_false_or_eq_true ((y14.1.length : Int) == y20) with hb | hb
    · have hE := hE.bool (t := 104) rfl hb
      refine st_pure hE rfl 105 rfl rfl (.int .i64 y14.2) (by kernel_rfl) fun a hE => ?_
      refine st_pure hE rfl 106 rfl rfl (.bool (y14.2 == 0)) (by kernel_rfl) fun a hE => ?_
      refine st_pure hE rfl 107 rfl rfl (.bool (y14.2 == 0)) (by kernel_rfl) fun a hE => ?_
      have hE := hE.re (t := 107) rfl (congrArg Value.bool (and_t (e := (y14.2 == 0)) hb))
      exact st_nil (n_then ⟨hE.sel ⟨rfl, rfl, rfl, rfl, rfl, rfl, trivial⟩, hS⟩)
    · have hE := hE.bool (t := 104) rfl hb
      refine st_not hE rfl 105 rfl rfl fun a hE => ?_
      refine st_not hE rfl 106 rfl rfl fun a hE => ?_
      refine st_pure hE rfl 107 rfl rfl (.bool false) (by kernel_rfl) fun a hE => ?_
      have hE := hE.re (t := 107) rfl (congrArg Value.bool (and_f (e := (y14.2 == 0)) hb))
      exact st_nil (n_then ⟨hE.sel ⟨rfl, rfl, rfl, rfl, rfl, rfl, trivial⟩, hS⟩)
  rintro a w ⟨hE, hS⟩
  refine st_pure hE rfl 108 rfl rfl (.bool (((y14.1.length : Int) == y20) && (y14.2 == 0))) (by kernel_rfl) fun a hE => ?_
  refine st_cut 3 (fun a w => Env 127 a [(111, .bool ((((y14.1.length : Int) == y20) && (y14.2 == 0)) && (y15.2 == 20))), (4, S y14.1), (9, .int .i64 y17.2), (10, S y19.1), (11, .int .i64 y19.2)] ∧ Sep [] w0 w [.row 27 13 A6 [y2, y2].length 2 ([y2, y2].map api_Dir.enc), .row 27 13 A5 [y2, y2].length 2 ([y2, y2].map api_Dir.enc), .row 27 13 A4 [y2, y2].length 2 ([y2, y2].map api_Dir.enc), .row 27 13 A3 [y2, y2].length 2 ([y2, y2].map api_Dir.enc), .row 3 1 A2 y3.1.length c1 (y3.1.map (eI .i64)), .row 27 13 A1 [y2, y2].length 2 ([y2, y2].map api_Dir.enc), .box b1 27 (api_Dir.enc y2)]) ?_ ?_
  · rcases Bool.eq_false_or_eq_true (((y14.1.length : Int) == y20) && (y14.2 == 0)) with hb | hb
    · have hE := hE.bool (t := 108) rfl hb
      refine st_pure hE rfl 109 rfl rfl (.int .i64 y15.2) (by kernel_rfl) fun a hE => ?_
      refine st_pure hE rfl 110 rfl rfl (.bool (y15.2 == 20)) (by kernel_rfl) fun a hE => ?_
      refine st_pure hE rfl 111 rfl rfl (.bool (y15.2 == 20)) (by kernel_rfl) fun a hE => ?_
      have hE := hE.re (t := 111) rfl (congrArg Value.bool (and_t (e := (y15.2 == 20)) hb))
      exact st_nil (n_then ⟨hE.sel ⟨rfl, rfl, rfl, rfl, rfl, trivial⟩, hS⟩)
    · have hE := hE.bool (t := 108) rfl hb
      refine st_not hE rfl 109 rfl rfl fun a hE => ?_
      refine st_not hE rfl 110 rfl rfl fun a hE => ?_
      refine st_pure hE rfl 111 rfl rfl (.bool false) (by kernel_rfl) fun a hE => ?_
      have hE := hE.re (t := 111) rfl (congrArg Value.bool (and_f (e := (y15.2 == 20)) hb))
      exact st_nil (n_then ⟨hE.sel ⟨rfl, rfl, rfl, rfl, rfl, trivial⟩, hS⟩)
  rintro a w ⟨hE, hS⟩
  refine st_pure hE rfl 112 rfl rfl (.bool ((((y14.1.length : Int) == y20) && (y14.2 == 0)) && (y15.2 == 20))) (by kernel_rfl) fun a hE => ?_
  refine st_cut 3 (fun a w => Env 127 a [(115, .bool (((((y14.1.length : Int) == y20) && (y14.2 == 0)) && (y15.2 == 20)) && (y17.2 == 3))), (4, S y14.1), (10, S y19.1), (11, .int .i64 y19.2)] ∧ Sep [] w0 w [.row 27 13 A6 [y2, y2].length 2 ([y2, y2].map api_Dir.enc), .row 27 13 A5 [y2, y2].length 2 ([y2, y2].map api_Dir.enc), .row 27 13 A4 [y2, y2].length 2 ([y2, y2].map api_Dir.enc), .row 27 13 A3 [y2, y2].length 2 ([y2, y2].map api_Dir.enc), .row 3 1 A2 y3.1.length c1 (y3.1.map (eI .i64)), .row 27 13 A1 [y2, y2].length 2 ([y2, y2].map api_Dir.enc), .box b1 27 (api_Dir.enc y2)]) ?_ ?_
  · rcases Bool.eq_false_or_eq_true ((((y14.1.length : Int) == y20) && (y14.2 == 0)) && (y15.2 == 20)) with hb | hb
    · have hE := hE.bool (t := 112) rfl hb
      refine st_pure hE rfl 113 rfl rfl (.int .i64 y17.2) (by kernel_rfl) fun a hE => ?_
      refine st_pure hE rfl 114 rfl rfl (.bool (y17.2 == 3)) (by kernel_rfl) fun a hE => ?_
      refine st_pure hE rfl 115 rfl rfl (.bool (y17.2 == 3)) (by kernel_rfl) fun a hE => ?_
      have hE := hE.re (t := 115) rfl (congrArg Value.bool (and_t (e := (y17.2 == 3)) hb))
      exact st_nil (n_then ⟨hE.sel ⟨rfl, rfl, rfl, rfl, trivial⟩, hS⟩)
    · have hE := hE.bool (t := 112) rfl hb
      refine st_not hE rfl 113 rfl rfl fun a hE => ?_
      refine st_not hE rfl 114 rfl rfl fun a hE => ?_
      refine st_pure hE rfl 115 rfl rfl (.bool false) (by kernel_rfl) fun a hE => ?_
      have hE := hE.re (t := 115) rfl (congrArg Value.bool (and_f (e := (y17.2 == 3)) hb))
      exact st_nil (n_then ⟨hE.sel ⟨rfl, rfl, rfl, rfl, trivial⟩, hS⟩)
  rintro a w ⟨hE, hS⟩
  refine st_pure hE rfl 116 rfl rfl (.bool (((((y14.1.length : Int) == y20) && (y14.2 == 0)) && (y15.2 == 20)) && (y17.2 == 3))) (by kernel_rfl) fun a hE => ?_
  obtain ⟨y21, h21, hF⟩ := bind_some hF
  refine st_cut 6 (fun a w => Env 127 a [(122, .bool y21), (11, .int .i64 y19.2)] ∧ Sep [] w0 w [.row 27 13 A6 [y2, y2].length 2 ([y2, y2].map api_Dir.enc), .row 27 13 A5 [y2, y2].length 2 ([y2, y2].map api_Dir.enc), .row 27 13 A4 [y2, y2].length 2 ([y2, y2].map api_Dir.enc), .row 27 13 A3 [y2, y2].length 2 ([y2, y2].map api_Dir.enc), .row 3 1 A2 y3.1.length c1 (y3.1.map (eI .i64)), .row 27 13 A1 [y2, y2].length 2 ([y2, y2].map api_Dir.enc), .box b1 27 (api_Dir.enc y2)]) ?_ ?_
  · rcases Bool.eq_false_or_eq_true (((((y14.1.length : Int) == y20) && (y14.2 == 0)) && (y15.2 == 20)) && (y17.2 == 3)) with hb | hb
    · have hE := hE.bool (t := 116) rfl hb
      have h21 := if_t h21 hb
      refine st_pure hE rfl 117 rfl rfl (S y19.1) (by kernel_rfl) fun a hE => ?_
      refine st_pure hE rfl 118 rfl rfl (S y14.1) (by kernel_rfl) fun a hE => ?_
      refine st_pure hE rfl 119 rfl rfl (S y14.1) (by kernel_rfl) fun a hE => ?_
      obtain ⟨y22, h22, h21⟩ := bind_some h21
      refine st_run hE rfl 120 rfl rfl (S y22) (run_cat rfl (hE.eval rfl) (hE.eval rfl) h22) fun a hE => ?_
      refine st_run hE rfl 121 rfl rfl (.bool (y19.1 == y22)) (run_str_eql rfl (hE.eval rfl) (hE.eval rfl)) fun a hE => ?_
      refine st_pure hE rfl 122 rfl rfl (.bool (y19.1 == y22)) (by kernel_rfl) fun a hE => ?_
      obtain rfl := Option.some.inj h21
      exact st_nil (n_then ⟨hE.sel ⟨rfl, rfl, trivial⟩, hS⟩)
    · have hE := hE.bool (t := 116) rfl hb
      have h21 := if_f h21 hb
      refine st_not hE rfl 117 rfl rfl fun a hE => ?_
      refine st_not hE rfl 118 rfl rfl fun a hE => ?_
      refine st_not hE rfl 119 rfl rfl fun a hE => ?_
      refine st_not hE rfl 120 rfl rfl fun a hE => ?_
      refine st_not hE rfl 121 rfl rfl fun a hE => ?_
      refine st_pure hE rfl 122 rfl rfl (.bool false) (by kernel_rfl) fun a hE => ?_
      obtain rfl := Option.some.inj h21
      exact st_nil (n_then ⟨hE.sel ⟨rfl, rfl, trivial⟩, hS⟩)
  rintro a w ⟨hE, hS⟩
  refine st_pure hE rfl 123 rfl rfl (.bool y21) (by kernel_rfl) fun a hE => ?_
  refine st_cut 3 (fun a w => Env 127 a [(126, .bool (y21 && (y19.2 == 0)))] ∧ Sep [] w0 w [.row 27 13 A6 [y2, y2].length 2 ([y2, y2].map api_Dir.enc), .row 27 13 A5 [y2, y2].length 2 ([y2, y2].map api_Dir.enc), .row 27 13 A4 [y2, y2].length 2 ([y2, y2].map api_Dir.enc), .row 27 13 A3 [y2, y2].length 2 ([y2, y2].map api_Dir.enc), .row 3 1 A2 y3.1.length c1 (y3.1.map (eI .i64)), .row 27 13 A1 [y2, y2].length 2 ([y2, y2].map api_Dir.enc), .box b1 27 (api_Dir.enc y2)]) ?_ ?_
  · rcases Bool.eq_false_or_eq_true y21 with hb | hb
    · have hE := hE.bool (t := 123) rfl hb
      refine st_pure hE rfl 124 rfl rfl (.int .i64 y19.2) (by kernel_rfl) fun a hE => ?_
      refine st_pure hE rfl 125 rfl rfl (.bool (y19.2 == 0)) (by kernel_rfl) fun a hE => ?_
      refine st_pure hE rfl 126 rfl rfl (.bool (y19.2 == 0)) (by kernel_rfl) fun a hE => ?_
      have hE := hE.re (t := 126) rfl (congrArg Value.bool (and_t (e := (y19.2 == 0)) hb))
      exact st_nil (n_then ⟨hE.sel ⟨rfl, trivial⟩, hS⟩)
    · have hE := hE.bool (t := 123) rfl hb
      refine st_not hE rfl 124 rfl rfl fun a hE => ?_
      refine st_not hE rfl 125 rfl rfl fun a hE => ?_
      refine st_pure hE rfl 126 rfl rfl (.bool false) (by kernel_rfl) fun a hE => ?_
      have hE := hE.re (t := 126) rfl (congrArg Value.bool (and_f (e := (y19.2 == 0)) hb))
      exact st_nil (n_then ⟨hE.sel ⟨rfl, trivial⟩, hS⟩)
  rintro a w ⟨hE, hS⟩
  refine st_pure hE rfl 0 rfl rfl (.bool (y21 && (y19.2 == 0))) (by kernel_rfl) fun a hE => ?_
  refine st_nil ?_
  refine n_then ?_
  refine wp_ret ?_
  obtain rfl := Option.some.inj hF
  exact out (rs := [.tmp 0]) (vs := [.bool (y21 && (y19.2 == 0))]) rfl hE hS (.cons (.tmp rfl) .nil) ⟨rfl, hS.pick [] rfl rfl⟩
/-- filespace/filespacelaw11.DirreadStats -/
theorem W_law11_DirreadStats (x0 : api_Node) (x1 : Int) (r : Bool) (hF : law11_DirreadStats x0 x1 = some r) (w0 : World)  : Ret Try.prog 3 #[.agg (api_Node.enc x0).toArray, .int .i64 x1] w0 fun v w => v = .bool r ∧ Sep [] w0 w [] := by
  refine enter Try.func3 rfl rfl rfl fun a hE => ?_
  have hS := Sep.start [] w0
  unfold law11_DirreadStats at hF
  refine wp_seq ?_
  refine r_list ?_
  refine go_box hE hS rfl 2 rfl rfl 23 (api_Node.enc x0) (fun _ => by kernel_rfl) fun a w b1 hx hE hS => ?_
  refine st_pure hE rfl 4 rfl rfl (.bool false) (by kernel_rfl) fun a hE => ?_
  refine st_nil ?_
  refine n_then ?_
  refine wp_seq ?_
  refine r_mix [] [(0, false), (1, false), (2, false), (3, false), (4, false), (5, false), (6, false), (7, false), (8, false), (9, false), (10, false)] rfl (by kernel_rfl) ?_
  have hW := hS
  have hX := hS.now
  refine mx_run hE rfl rfl 5 rfl rfl (.agg (api_Node.enc x0).toArray) (fun w hx => ld_box hE (hW.ext hx) 0 rfl rfl rfl (by kernel_rfl)) fun a hE => ?_
  refine mx_pure hE rfl rfl 6 rfl rfl (.int .i64 x1) (by kernel_rfl) fun a hE => ?_
  obtain ⟨y1, h1, hF⟩ := bind_some hF
  refine mx_call hE rfl rfl 7 rfl rfl 16 _ (by kernel_rfl) (.agg (api_Dir.enc y1).toArray) (fun w hx => (W_dirread_Stat x0 x1 _ h1 _ ).mono fun u w ⟨hu, hq⟩ => ⟨hu, Ext.of_sep hq⟩) fun a hE => ?_
  refine mx_run hE rfl rfl 8 rfl rfl (.agg (api_Node.enc x0).toArray) (fun w hx => ld_box hE (hW.ext hx) 0 rfl rfl rfl (by kernel_rfl)) fun a hE => ?_
  refine mx_pure hE rfl rfl 9 rfl rfl (.int .i64 x1) (by kernel_rfl) fun a hE => ?_
  obtain ⟨y2, h2, hF⟩ := bind_some hF
  refine mx_call hE rfl rfl 10 rfl rfl 17 _ (by kernel_rfl) (.agg (api_Dir.enc y2).toArray) (fun w hx => (W_ref11_Stat x0 x1 _ h2 _ ).mono fun u w ⟨hu, hq⟩ => ⟨hu, Ext.of_sep hq⟩) fun a hE => ?_
  refine mx_run hE rfl rfl 11 rfl rfl (.bool (decide (y1 = y2))) (fun w hx => run_agg_eql rfl (hE.eval rfl) (hE.eval rfl) (api_Dir_eqIs _ _)) fun a hE => ?_
  refine mx_pure hE rfl rfl 12 rfl rfl (.bool (decide (y1 = y2))) (by kernel_rfl) fun a hE => ?_
  obtain ⟨y3, h3, hF⟩ := bind_some hF
  refine mx_cut 2 (fun a => Env 15 a [(14, .bool y3)]) rfl ?_ (fun a hE => ?_)
  · rcases Bool.eq_false_or_eq_true (decide (y1 = y2)) with hb | hb
    · have hE := hE.bool (t := 12) rfl hb
      have h3 := if_t h3 hb
      obtain ⟨y4, h4, h3⟩ := bind_some h3
      refine mx_call hE rfl rfl 13 rfl rfl 18 _ (by kernel_rfl) (.bool y4) (fun w hx => (W_law11_awake  _ h4 _ ).mono fun u w ⟨hu, hq⟩ => ⟨hu, Ext.of_sep hq⟩) fun a hE => ?_
      refine mx_pure hE rfl rfl 14 rfl rfl (.bool y4) (by kernel_rfl) fun a hE => ?_
      obtain rfl := Option.some.inj h3
      exact mx_nil fun w hx => hE.sel ⟨rfl, trivial⟩
    · have hE := hE.bool (t := 12) rfl hb
      have h3 := if_f h3 hb
      refine mx_not hE rfl rfl 13 rfl rfl fun a hE => ?_
      refine mx_pure hE rfl rfl 14 rfl rfl (.bool false) (by kernel_rfl) fun a hE => ?_
      obtain rfl := Option.some.inj h3
      exact mx_nil fun w hx => hE.sel ⟨rfl, trivial⟩
  refine mx_pure hE rfl rfl 4 rfl rfl (.bool y3) (by kernel_rfl) fun a hE => ?_
  refine mx_nil fun w hx => ?_
  have hS := hS.ext hx
  refine n_then ?_
  refine wp_ret ?_
  obtain rfl := Option.some.inj hF
  exact out (rs := [.tmp 4]) (vs := [.bool y3]) rfl hE hS (.cons (.tmp rfl) .nil) ⟨rfl, hS.pick [] rfl rfl⟩
/-- filespace/filespacelaw11.small -/
theorem W_law11_small (x0 : List api_Dir) (r : Bool) (hF : law11_small x0 = some r) (w0 : World) {a0 : Option Addr} {k0 : Nat} {F0 : Nat → Prop} (hs0 : In F0 13 a0 x0.length k0 (x0.map api_Dir.enc) w0) : Ret Try.prog 19 #[.slice a0 x0.length k0] w0 fun v w => v = .bool r ∧ Sep [] w0 w [] := by
  refine enter Try.func19 rfl rfl rfl fun a hE => ?_
  have hS := Sep.start [] w0
  have hS := hS.lent hs0
  unfold law11_small at hF
  refine wp_seq ?_
  refine r_list ?_
  refine st_pure hE rfl 2 rfl rfl (.bool false) (by kernel_rfl) fun a hE => ?_
  refine st_nil ?_
  refine n_then ?_
  refine wp_seq ?_
  refine wp_seq ?_
  refine r_list ?_
  refine st_pure hE rfl 4 rfl rfl (.slice a0 x0.length k0) (by kernel_rfl) fun a hE => ?_
  refine st_pure hE rfl 5 rfl rfl (.int .i64 (x0.length : Int)) (by kernel_rfl) fun a hE => ?_
  refine st_pure hE rfl 6 rfl rfl (.bool (decide ((x0.length : Int) > 60))) (by kernel_rfl) fun a hE => ?_
  refine st_nil ?_
  refine n_then ?_
  rcases Bool.eq_false_or_eq_true (decide ((x0.length : Int) > 60)) with hb | hb
  · have hF := if_t hF hb
    refine c_true hE rfl hb ?_
    refine wp_seq ?_
    refine r_list ?_
    refine st_pure hE rfl 2 rfl rfl (.bool false) (by kernel_rfl) fun a hE => ?_
    refine st_nil ?_
    refine n_then ?_
    refine wp_ret ?_
    obtain rfl := Option.some.inj hF
    refine r_then ?_
    exact out (rs := [.tmp 2]) (vs := [.bool false]) rfl hE hS (.cons (.tmp rfl) .nil) ⟨rfl, hS.pick [] rfl rfl⟩
  have hF := if_f hF hb
  refine c_false hE rfl hb ?_
  refine wp_skip ?_
  refine n_then ?_
  refine wp_seq ?_
  refine wp_seq ?_
  refine r_list ?_
  refine st_pure hE rfl 7 rfl rfl (.slice a0 x0.length k0) (by kernel_rfl) fun a hE => ?_
  refine st_pure hE rfl 8 rfl rfl (.int .i64 (x0.length : Int)) (by kernel_rfl) fun a hE => ?_
  refine st_pure hE rfl 9 rfl rfl (.int .i64 0) (by kernel_rfl) fun a hE => ?_
  refine st_nil ?_
  refine n_then ?_
  obtain ⟨o1, g1, hF⟩ := bind_some hF
  refine w_meet (fun a w => ∃ s1, o1 = .fall s1 ∧ Env 47 a [] ∧ Sep [] w0 w []) ?_ ?_
  · refine wp_block ?_
    refine loop_rule g1 (fun (s1 : Int) a w => Env 47 a [(0, .slice a0 x0.length k0), (8, .int .i64 (x0.length : Int)), (9, .int .i64 s1)] ∧ Sep [] w0 w [.ro F0 (Rd F0 13 a0 x0.length k0 (x0.map api_Dir.enc))]) ?_ ?_
    · exact ⟨hE.sel ⟨rfl, rfl, rfl, trivial⟩, hS.pick [0] rfl rfl⟩
    rintro s1 a w ⟨hE, hS⟩ st hB1 hD1
    unfold law11_small_L1 at hB1
    refine wp_seq ?_
    refine r_list ?_
    refine st_pure hE rfl 10 rfl rfl (.bool (decide (s1 < (x0.length : Int)))) (by kernel_rfl) fun a hE => ?_
    refine st_nil ?_
    refine n_then ?_
    refine wp_seq ?_
    rcases (Bool.eq_false_or_eq_true (decide (s1 < (x0.length : Int)))).symm with hb | hb
    · have hB1 := if_f hB1 hb
      refine c_false hE rfl hb ?_
      refine wp_exit ?_
      refine e_then (e_then (e_in ?_))
      obtain rfl := Option.some.inj hB1
      have hd := hD1 _ rfl
      subst hd
      refine n_then ?_
      exact ⟨_, rfl, hE.sel trivial, hS.pick [] rfl rfl⟩
    have hB1 := if_t hB1 hb
    refine c_true hE rfl hb ?_
    refine wp_skip ?_
    refine n_then ?_
    refine wp_seq ?_
    refine wp_block ?_
    refine wp_seq ?_
    refine r_list ?_
    refine st_pure hE rfl 11 rfl rfl (.int .i64 s1) (by kernel_rfl) fun a hE => ?_
    refine st_pure hE rfl 3 rfl rfl (.int .i64 s1) (by kernel_rfl) fun a hE => ?_
    refine st_nil ?_
    refine n_then ?_
    refine wp_seq ?_
    refine r_list ?_
    refine st_pure hE rfl 12 rfl rfl (.slice a0 x0.length k0) (by kernel_rfl) fun a hE => ?_
    refine st_pure hE rfl 13 rfl rfl (.int .i64 s1) (by kernel_rfl) fun a hE => ?_
    obtain ⟨y1, h1, hB1⟩ := bind_some hB1
    refine go_at (e := 27) (c := 13) hE hS rfl 14 rfl rfl 0 rfl (by kernel_rfl) (by kernel_rfl) rfl rfl rfl .ro rfl h1 fun a b1 p1 hA1 hE => ?_
    refine st_pure hE rfl 15 rfl rfl (.pointer (some ⟨b1, p1 + s1.toNat * 13 + 9, none⟩)) (by kernel_rfl) fun a hE => ?_
    refine st_run hE rfl 16 rfl rfl (S y1.Name_) (ld_elem (k := 0) (f := api_Dir.enc) (j := 9) hE hS rfl rfl rfl .ro hA1 h1 rfl (by kernel_rfl)) fun a hE => ?_
    refine st_pure hE rfl 17 rfl rfl (.int .i64 (y1.Name_.length : Int)) (by kernel_rfl) fun a hE => ?_
    refine st_pure hE rfl 18 rfl rfl (.bool (decide ((y1.Name_.length : Int) > 2000))) (by kernel_rfl) fun a hE => ?_
    refine st_pure hE rfl 19 rfl rfl (.bool (decide ((y1.Name_.length : Int) > 2000))) (by kernel_rfl) fun a hE => ?_
    obtain ⟨y2, h2, hB1⟩ := bind_some hB1
    refine st_cut 8 (fun a w => Env 47 a [(27, .bool y2), (0, .slice a0 x0.length k0), (3, .int .i64 s1), (8, .int .i64 (x0.length : Int)), (9, .int .i64 s1)] ∧ Sep [] w0 w [.ro F0 (Rd F0 13 a0 x0.length k0 (x0.map api_Dir.enc))]) ?_ ?_
    · rcases Bool.eq_false_or_eq_true (decide ((y1.Name_.length : Int) > 2000)) with hb | hb
      · have hE := hE.bool (t := 19) rfl hb
        have h2 := if_t h2 hb
        refine st_not hE rfl 20 rfl rfl fun a hE => ?_
        refine st_not hE rfl 21 rfl rfl fun a hE => ?_
        refine st_not hE rfl 22 rfl rfl fun a hE => ?_
        refine st_not hE rfl 23 rfl rfl fun a hE => ?_
        refine st_not hE rfl 24 rfl rfl fun a hE => ?_
        refine st_not hE rfl 25 rfl rfl fun a hE => ?_
        refine st_not hE rfl 26 rfl rfl fun a hE => ?_
        refine st_pure hE rfl 27 rfl rfl (.bool true) (by kernel_rfl) fun a hE => ?_
        obtain rfl := Option.some.inj h2
        exact st_nil (n_then ⟨hE.sel ⟨rfl, rfl, rfl, rfl, rfl, trivial⟩, hS⟩)
      · have hE := hE.bool (t := 19) rfl hb
        have h2 := if_f h2 hb
        refine st_pure hE rfl 20 rfl rfl (.slice a0 x0.length k0) (by kernel_rfl) fun a hE => ?_
        refine st_pure hE rfl 21 rfl rfl (.int .i64 s1) (by kernel_rfl) fun a hE => ?_
        obtain ⟨y3, h3, h2⟩ := bind_some h2
        refine go_at (e := 27) (c := 13) hE hS rfl 22 rfl rfl 0 rfl (by kernel_rfl) (by kernel_rfl) rfl rfl rfl .ro rfl h3 fun a b2 p2 hA2 hE => ?_
        refine st_pure hE rfl 23 rfl rfl (.pointer (some ⟨b2, p2 + s1.toNat * 13 + 10, none⟩)) (by kernel_rfl) fun a hE => ?_
        refine st_run hE rfl 24 rfl rfl (S y3.Uid_) (ld_elem (k := 0) (f := api_Dir.enc) (j := 10) hE hS rfl rfl rfl .ro hA2 h3 rfl (by kernel_rfl)) fun a hE => ?_
        refine st_pure hE rfl 25 rfl rfl (.int .i64 (y3.Uid_.length : Int)) (by kernel_rfl) fun a hE => ?_
        refine st_pure hE rfl 26 rfl rfl (.bool (decide ((y3.Uid_.length : Int) > 2000))) (by kernel_rfl) fun a hE => ?_
        refine st_pure hE rfl 27 rfl rfl (.bool (decide ((y3.Uid_.length : Int) > 2000))) (by kernel_rfl) fun a hE => ?_
        obtain rfl := Option.some.inj h2
        exact st_nil (n_then ⟨hE.sel ⟨rfl, rfl, rfl, rfl, rfl, trivial⟩, hS⟩)
    rintro a w ⟨hE, hS⟩
    refine st_pure hE rfl 28 rfl rfl (.bool y2) (by kernel_rfl) fun a hE => ?_
    obtain ⟨y4, h4, hB1⟩ := bind_some hB1
    refine st_cut 8 (fun a w => Env 47 a [(36, .bool y4), (0, .slice a0 x0.length k0), (3, .int .i64 s1), (8, .int .i64 (x0.length : Int)), (9, .int .i64 s1)] ∧ Sep [] w0 w [.ro F0 (Rd F0 13 a0 x0.length k0 (x0.map api_Dir.enc))]) ?_ ?_
    · rcases Bool.eq_false_or_eq_true y2 with hb | hb
      · have hE := hE.bool (t := 28) rfl hb
        have h4 := if_t h4 hb
        refine st_not hE rfl 29 rfl rfl fun a hE => ?_
        refine st_not hE rfl 30 rfl rfl fun a hE => ?_
        refine st_not hE rfl 31 rfl rfl fun a hE => ?_
        refine st_not hE rfl 32 rfl rfl fun a hE => ?_
        refine st_not hE rfl 33 rfl rfl fun a hE => ?_
        refine st_not hE rfl 34 rfl rfl fun a hE => ?_
        refine st_not hE rfl 35 rfl rfl fun a hE => ?_
        refine st_pure hE rfl 36 rfl rfl (.bool true) (by kernel_rfl) fun a hE => ?_
        obtain rfl := Option.some.inj h4
        exact st_nil (n_then ⟨hE.sel ⟨rfl, rfl, rfl, rfl, rfl, trivial⟩, hS⟩)
      · have hE := hE.bool (t := 28) rfl hb
        have h4 := if_f h4 hb
        refine st_pure hE rfl 29 rfl rfl (.slice a0 x0.length k0) (by kernel_rfl) fun a hE => ?_
        refine st_pure hE rfl 30 rfl rfl (.int .i64 s1) (by kernel_rfl) fun a hE => ?_
        obtain ⟨y5, h5, h4⟩ := bind_some h4
        refine go_at (e := 27) (c := 13) hE hS rfl 31 rfl rfl 0 rfl (by kernel_rfl) (by kernel_rfl) rfl rfl rfl .ro rfl h5 fun a b3 p3 hA3 hE => ?_
        refine st_pure hE rfl 32 rfl rfl (.pointer (some ⟨b3, p3 + s1.toNat * 13 + 11, none⟩)) (by kernel_rfl) fun a hE => ?_
        refine st_run hE rfl 33 rfl rfl (S y5.Gid_) (ld_elem (k := 0) (f := api_Dir.enc) (j := 11) hE hS rfl rfl rfl .ro hA3 h5 rfl (by kernel_rfl)) fun a hE => ?_
        refine st_pure hE rfl 34 rfl rfl (.int .i64 (y5.Gid_.length : Int)) (by kernel_rfl) fun a hE => ?_
        refine st_pure hE rfl 35 rfl rfl (.bool (decide ((y5.Gid_.length : Int) > 2000))) (by kernel_rfl) fun a hE => ?_
        refine st_pure hE rfl 36 rfl rfl (.bool (decide ((y5.Gid_.length : Int) > 2000))) (by kernel_rfl) fun a hE => ?_
        obtain rfl := Option.some.inj h4
        exact st_nil (n_then ⟨hE.sel ⟨rfl, rfl, rfl, rfl, rfl, trivial⟩, hS⟩)
    rintro a w ⟨hE, hS⟩
    refine st_pure hE rfl 37 rfl rfl (.bool y4) (by kernel_rfl) fun a hE => ?_
    obtain ⟨y6, h6, hB1⟩ := bind_some hB1
    refine st_cut 8 (fun a w => Env 47 a [(45, .bool y6), (0, .slice a0 x0.length k0), (8, .int .i64 (x0.length : Int)), (9, .int .i64 s1)] ∧ Sep [] w0 w [.ro F0 (Rd F0 13 a0 x0.length k0 (x0.map api_Dir.enc))]) ?_ ?_
    · rcases Bool.eq_false_or_eq_true y4 with hb | hb
      · have hE := hE.bool (t := 37) rfl hb
        have h6 := if_t h6 hb
        refine st_not hE rfl 38 rfl rfl fun a hE => ?_
        refine st_not hE rfl 39 rfl rfl fun a hE => ?_
        refine st_not hE rfl 40 rfl rfl fun a hE => ?_
        refine st_not hE rfl 41 rfl rfl fun a hE => ?_
        refine st_not hE rfl 42 rfl rfl fun a hE => ?_
        refine st_not hE rfl 43 rfl rfl fun a hE => ?_
        refine st_not hE rfl 44 rfl rfl fun a hE => ?_
        refine st_pure hE rfl 45 rfl rfl (.bool true) (by kernel_rfl) fun a hE => ?_
        obtain rfl := Option.some.inj h6
        exact st_nil (n_then ⟨hE.sel ⟨rfl, rfl, rfl, rfl, trivial⟩, hS⟩)
      · have hE := hE.bool (t := 37) rfl hb
        have h6 := if_f h6 hb
        refine st_pure hE rfl 38 rfl rfl (.slice a0 x0.length k0) (by kernel_rfl) fun a hE => ?_
        refine st_pure hE rfl 39 rfl rfl (.int .i64 s1) (by kernel_rfl) fun a hE => ?_
        obtain ⟨y7, h7, h6⟩ := bind_some h6
        refine go_at (e := 27) (c := 13) hE hS rfl 40 rfl rfl 0 rfl (by kernel_rfl) (by kernel_rfl) rfl rfl rfl .ro rfl h7 fun a b4 p4 hA4 hE => ?_
        refine st_pure hE rfl 41 rfl rfl (.pointer (some ⟨b4, p4 + s1.toNat * 13 + 12, none⟩)) (by kernel_rfl) fun a hE => ?_
        refine st_run hE rfl 42 rfl rfl (S y7.Muid_) (ld_elem (k := 0) (f := api_Dir.enc) (j := 12) hE hS rfl rfl rfl .ro hA4 h7 rfl (by kernel_rfl)) fun a hE => ?_
        refine st_pure hE rfl 43 rfl rfl (.int .i64 (y7.Muid_.length : Int)) (by kernel_rfl) fun a hE => ?_
        refine st_pure hE rfl 44 rfl rfl (.bool (decide ((y7.Muid_.length : Int) > 2000))) (by kernel_rfl) fun a hE => ?_
        refine st_pure hE rfl 45 rfl rfl (.bool (decide ((y7.Muid_.length : Int) > 2000))) (by kernel_rfl) fun a hE => ?_
        obtain rfl := Option.some.inj h6
        exact st_nil (n_then ⟨hE.sel ⟨rfl, rfl, rfl, rfl, trivial⟩, hS⟩)
    rintro a w ⟨hE, hS⟩
    refine st_nil ?_
    refine n_then ?_
    rcases Bool.eq_false_or_eq_true y6 with hb | hb
    · have hB1 := if_t hB1 hb
      refine c_true hE rfl hb ?_
      refine wp_seq ?_
      refine r_list ?_
      refine st_pure hE rfl 2 rfl rfl (.bool false) (by kernel_rfl) fun a hE => ?_
      refine st_nil ?_
      refine n_then ?_
      refine wp_ret ?_
      obtain rfl := Option.some.inj hB1
      have hd := hD1 _ rfl
      subst hd
      obtain rfl := Option.some.inj hF
      refine r_in (r_then (r_then (r_in (r_then (r_then ?_)))))
      exact out (rs := [.tmp 2]) (vs := [.bool false]) rfl hE hS (.cons (.tmp rfl) .nil) ⟨rfl, hS.pick [] rfl rfl⟩
    have hB1 := if_f hB1 hb
    refine c_false hE rfl hb ?_
    refine wp_skip ?_
    refine n_in ?_
    refine n_then ?_
    refine r_list ?_
    refine st_pure hE rfl 46 rfl rfl (.int .i64 (w64 (s1 + 1))) (by kernel_rfl) fun a hE => ?_
    refine st_pure hE rfl 9 rfl rfl (.int .i64 (w64 (s1 + 1))) (by kernel_rfl) fun a hE => ?_
    refine st_nil ?_
    obtain rfl := Option.some.inj hB1
    refine n_then ?_
    exact ⟨_, rfl, hE.sel ⟨rfl, rfl, rfl, trivial⟩, hS.pick [0] rfl rfl⟩
  rintro a w ⟨s1, rfl, hE, hS⟩
  replace hF := hF
  refine n_then ?_
  refine wp_seq ?_
  refine r_list ?_
  refine st_pure hE rfl 2 rfl rfl (.bool true) (by kernel_rfl) fun a hE => ?_
  refine st_nil ?_
  refine n_then ?_
  refine wp_ret ?_
  obtain rfl := Option.some.inj hF
  exact out (rs := [.tmp 2]) (vs := [.bool true]) rfl hE hS (.cons (.tmp rfl) .nil) ⟨rfl, hS.pick [] rfl rfl⟩
/-- filespace/filespaceref07.sum -/
theorem W_ref07_sum (x0 : Int) (x1 : Int) (r : Bool) (hF : ref07_sum x0 x1 = some r) (w0 : World)  : Ret Try.prog 64 #[.int .i64 x0, .int .i64 x1] w0 fun v w => v = .bool r ∧ Sep [] w0 w [] := by
  refine enter Try.func64 rfl rfl rfl fun a hE => ?_
  have hS := Sep.start [] w0
  unfold ref07_sum at hF
  refine wp_seq ?_
  refine r_list ?_
  refine st_pure hE rfl 4 rfl rfl (.bool false) (by kernel_rfl) fun a hE => ?_
  refine st_nil ?_
  refine n_then ?_
  refine wp_seq ?_
  refine r_list ?_
  refine st_pure hE rfl 5 rfl rfl (.int .i64 x0) (by kernel_rfl) fun a hE => ?_
  refine st_pure hE rfl 6 rfl rfl (.bool (x0 == (-1))) (by kernel_rfl) fun a hE => ?_
  refine st_pure hE rfl 7 rfl rfl (.bool (x0 == (-1))) (by kernel_rfl) fun a hE => ?_
  refine st_cut 10 (fun a w => Env 18 a [(17, .bool ((x0 == (-1)) || ((decide (x0 ≥ 0)) && ((andI .i64 x0 x1) == x0))))] ∧ Sep [] w0 w []) ?_ ?_
  · rcases Bool.eq_false_or_eq_true (x0 == (-1)) with hb | hb
    · have hE := hE.bool (t := 7) rfl hb
      refine st_not hE rfl 8 rfl rfl fun a hE => ?_
      refine st_not hE rfl 9 rfl rfl fun a hE => ?_
      refine st_not hE rfl 10 rfl rfl fun a hE => ?_
      refine st_not hE rfl 11 rfl rfl fun a hE => ?_
      refine st_not hE rfl 12 rfl rfl fun a hE => ?_
      refine st_not hE rfl 13 rfl rfl fun a hE => ?_
      refine st_not hE rfl 14 rfl rfl fun a hE => ?_
      refine st_not hE rfl 15 rfl rfl fun a hE => ?_
      refine st_not hE rfl 16 rfl rfl fun a hE => ?_
      refine st_pure hE rfl 17 rfl rfl (.bool true) (by kernel_rfl) fun a hE => ?_
      have hE := hE.re (t := 17) rfl (congrArg Value.bool (or_t (e := ((decide (x0 ≥ 0)) && ((andI .i64 x0 x1) == x0))) hb))
      exact st_nil (n_then ⟨hE.sel ⟨rfl, trivial⟩, hS⟩)
    · have hE := hE.bool (t := 7) rfl hb
      refine st_pure hE rfl 8 rfl rfl (.int .i64 x0) (by kernel_rfl) fun a hE => ?_
      refine st_pure hE rfl 9 rfl rfl (.bool (decide (x0 ≥ 0))) (by kernel_rfl) fun a hE => ?_
      refine st_pure hE rfl 10 rfl rfl (.bool (decide (x0 ≥ 0))) (by kernel_rfl) fun a hE => ?_
      refine st_cut 6 (fun a w => Env 18 a [(16, .bool ((decide (x0 ≥ 0)) && ((andI .i64 x0 x1) == x0))), (0, .int .i64 x0), (1, .int .i64 x1), (5, .int .i64 x0), (6, .bool (x0 == (-1))), (7, .bool false), (8, .int .i64 x0), (9, .bool (decide (x0 ≥ 0)))] ∧ Sep [] w0 w []) ?_ ?_
      · rcases Bool.eq_false_or_eq_true (decide (x0 ≥ 0)) with hb | hb
        · have hE := hE.bool (t := 10) rfl hb
          refine st_pure hE rfl 11 rfl rfl (.int .i64 x0) (by kernel_rfl) fun a hE => ?_
          refine st_pure hE rfl 12 rfl rfl (.int .i64 x1) (by kernel_rfl) fun a hE => ?_
          refine st_pure hE rfl 13 rfl rfl (.int .i64 (andI .i64 x0 x1)) (by kernel_rfl) fun a hE => ?_
          refine st_pure hE rfl 14 rfl rfl (.int .i64 x0) (by kernel_rfl) fun a hE => ?_
          refine st_pure hE rfl 15 rfl rfl (.bool ((andI .i64 x0 x1) == x0)) (by kernel_rfl) fun a hE => ?_
          refine st_pure hE rfl 16 rfl rfl (.bool ((andI .i64 x0 x1) == x0)) (by kernel_rfl) fun a hE => ?_
          have hE := hE.re (t := 16) rfl (congrArg Value.bool (and_t (e := ((andI .i64 x0 x1) == x0)) hb))
          exact st_nil (n_then ⟨hE.sel ⟨rfl, rfl, rfl, rfl, rfl, rfl, rfl, rfl, trivial⟩, hS⟩)
        · have hE := hE.bool (t := 10) rfl hb
          refine st_not hE rfl 11 rfl rfl fun a hE => ?_
          refine st_not hE rfl 12 rfl rfl fun a hE => ?_
          refine st_not hE rfl 13 rfl rfl fun a hE => ?_
          refine st_not hE rfl 14 rfl rfl fun a hE => ?_
          refine st_not hE rfl 15 rfl rfl fun a hE => ?_
          refine st_pure hE rfl 16 rfl rfl (.bool false) (by kernel_rfl) fun a hE => ?_
          have hE := hE.re (t := 16) rfl (congrArg Value.bool (and_f (e := ((andI .i64 x0 x1) == x0)) hb))
          exact st_nil (n_then ⟨hE.sel ⟨rfl, rfl, rfl, rfl, rfl, rfl, rfl, rfl, trivial⟩, hS⟩)
      rintro a w ⟨hE, hS⟩
      refine st_pure hE rfl 17 rfl rfl (.bool ((decide (x0 ≥ 0)) && ((andI .i64 x0 x1) == x0))) (by kernel_rfl) fun a hE => ?_
      have hE := hE.re (t := 17) rfl (congrArg Value.bool (or_f (e := ((decide (x0 ≥ 0)) && ((andI .i64 x0 x1) == x0))) hb))
      exact st_nil (n_then ⟨hE.sel ⟨rfl, trivial⟩, hS⟩)
  rintro a w ⟨hE, hS⟩
  refine st_pure hE rfl 4 rfl rfl (.bool ((x0 == (-1)) || ((decide (x0 ≥ 0)) && ((andI .i64 x0 x1) == x0)))) (by kernel_rfl) fun a hE => ?_
  refine st_nil ?_
  refine n_then ?_
  refine wp_ret ?_
  obtain rfl := Option.some.inj hF
  exact out (rs := [.tmp 4]) (vs := [.bool ((x0 == (-1)) || ((decide (x0 ≥ 0)) && ((andI .i64 x0 x1) == x0)))]) rfl hE hS (.cons (.tmp rfl) .nil) ⟨rfl, hS.pick [] rfl rfl⟩
/-- filespace/filespaceref07.in -/
theorem W_ref07_in (x0 : Int) (x1 : Int) (r : Bool) (hF : ref07_in x0 x1 = some r) (w0 : World)  : Ret Try.prog 65 #[.int .i64 x0, .int .i64 x1] w0 fun v w => v = .bool r ∧ Sep [] w0 w [] := by
  refine enter Try.func65 rfl rfl rfl fun a hE => ?_
  have hS := Sep.start [] w0
  unfold ref07_in at hF
  refine wp_seq ?_
  refine r_list ?_
  refine st_pure hE rfl 4 rfl rfl (.bool false) (by kernel_rfl) fun a hE => ?_
  refine st_nil ?_
  refine n_then ?_
  refine wp_seq ?_
  refine r_list ?_
  refine st_pure hE rfl 5 rfl rfl (.int .i64 x0) (by kernel_rfl) fun a hE => ?_
  refine st_pure hE rfl 6 rfl rfl (.bool (x0 == (-1))) (by kernel_rfl) fun a hE => ?_
  refine st_pure hE rfl 7 rfl rfl (.bool (x0 == (-1))) (by kernel_rfl) fun a hE => ?_
  refine st_cut 8 (fun a w => Env 16 a [(15, .bool ((x0 == (-1)) || ((decide (x0 ≥ 0)) && (decide (x0 ≤ x1)))))] ∧ Sep [] w0 w []) ?_ ?_
  · rcases Bool.eq_false_or_eq_true (x0 == (-1)) with hb | hb
    · have hE := hE.bool (t := 7) rfl hb
      refine st_not hE rfl 8 rfl rfl fun a hE => ?_
      refine st_not hE rfl 9 rfl rfl fun a hE => ?_
      refine st_not hE rfl 10 rfl rfl fun a hE => ?_
      refine st_not hE rfl 11 rfl rfl fun a hE => ?_
      refine st_not hE rfl 12 rfl rfl fun a hE => ?_
      refine st_not hE rfl 13 rfl rfl fun a hE => ?_
      refine st_not hE rfl 14 rfl rfl fun a hE => ?_
      refine st_pure hE rfl 15 rfl rfl (.bool true) (by kernel_rfl) fun a hE => ?_
      have hE := hE.re (t := 15) rfl (congrArg Value.bool (or_t (e := ((decide (x0 ≥ 0)) && (decide (x0 ≤ x1)))) hb))
      exact st_nil (n_then ⟨hE.sel ⟨rfl, trivial⟩, hS⟩)
    · have hE := hE.bool (t := 7) rfl hb
      refine st_pure hE rfl 8 rfl rfl (.int .i64 x0) (by kernel_rfl) fun a hE => ?_
      refine st_pure hE rfl 9 rfl rfl (.bool (decide (x0 ≥ 0))) (by kernel_rfl) fun a hE => ?_
      refine st_pure hE rfl 10 rfl rfl (.bool (decide (x0 ≥ 0))) (by kernel_rfl) fun a hE => ?_
      refine st_cut 4 (fun a w => Env 16 a [(14, .bool ((decide (x0 ≥ 0)) && (decide (x0 ≤ x1)))), (0, .int .i64 x0), (1, .int .i64 x1), (5, .int .i64 x0), (6, .bool (x0 == (-1))), (7, .bool false), (8, .int .i64 x0), (9, .bool (decide (x0 ≥ 0)))] ∧ Sep [] w0 w []) ?_ ?_
      · rcases Bool.eq_false_or_eq_true (decide (x0 ≥ 0)) with hb | hb
        · have hE := hE.bool (t := 10) rfl hb
          refine st_pure hE rfl 11 rfl rfl (.int .i64 x0) (by kernel_rfl) fun a hE => ?_
          refine st_pure hE rfl 12 rfl rfl (.int .i64 x1) (by kernel_rfl) fun a hE => ?_
          refine st_pure hE rfl 13 rfl rfl (.bool (decide (x0 ≤ x1))) (by kernel_rfl) fun a hE => ?_
          refine st_pure hE rfl 14 rfl rfl (.bool (decide (x0 ≤ x1))) (by kernel_rfl) fun a hE => ?_
          have hE := hE.re (t := 14) rfl (congrArg Value.bool (and_t (e := (decide (x0 ≤ x1))) hb))
          exact st_nil (n_then ⟨hE.sel ⟨rfl, rfl, rfl, rfl, rfl, rfl, rfl, rfl, trivial⟩, hS⟩)
        · have hE := hE.bool (t := 10) rfl hb
          refine st_not hE rfl 11 rfl rfl fun a hE => ?_
          refine st_not hE rfl 12 rfl rfl fun a hE => ?_
          refine st_not hE rfl 13 rfl rfl fun a hE => ?_
          refine st_pure hE rfl 14 rfl rfl (.bool false) (by kernel_rfl) fun a hE => ?_
          have hE := hE.re (t := 14) rfl (congrArg Value.bool (and_f (e := (decide (x0 ≤ x1))) hb))
          exact st_nil (n_then ⟨hE.sel ⟨rfl, rfl, rfl, rfl, rfl, rfl, rfl, rfl, trivial⟩, hS⟩)
      rintro a w ⟨hE, hS⟩
      refine st_pure hE rfl 15 rfl rfl (.bool ((decide (x0 ≥ 0)) && (decide (x0 ≤ x1)))) (by kernel_rfl) fun a hE => ?_
      have hE := hE.re (t := 15) rfl (congrArg Value.bool (or_f (e := ((decide (x0 ≥ 0)) && (decide (x0 ≤ x1)))) hb))
      exact st_nil (n_then ⟨hE.sel ⟨rfl, trivial⟩, hS⟩)
  rintro a w ⟨hE, hS⟩
  refine st_pure hE rfl 4 rfl rfl (.bool ((x0 == (-1)) || ((decide (x0 ≥ 0)) && (decide (x0 ≤ x1))))) (by kernel_rfl) fun a hE => ?_
  refine st_nil ?_
  refine n_then ?_
  refine wp_ret ?_
  obtain rfl := Option.some.inj hF
  exact out (rs := [.tmp 4]) (vs := [.bool ((x0 == (-1)) || ((decide (x0 ≥ 0)) && (decide (x0 ≤ x1))))]) rfl hE hS (.cons (.tmp rfl) .nil) ⟨rfl, hS.pick [] rfl rfl⟩
/-- filespace/filespaceref07.Numbers -/
theorem W_ref07_Numbers (x0 : api_Dir) (r : Bool) (hF : ref07_Numbers x0 = some r) (w0 : World)  : Ret Try.prog 52 #[.agg (api_Dir.enc x0).toArray] w0 fun v w => v = .bool r ∧ Sep [] w0 w [] := by
  refine enter Try.func52 rfl rfl rfl fun a hE => ?_
  have hS := Sep.start [] w0
  unfold ref07_Numbers at hF
  refine wp_seq ?_
  refine r_list ?_
  refine go_box hE hS rfl 1 rfl rfl 27 (api_Dir.enc x0) (fun _ => by kernel_rfl) fun a w b1 hx hE hS => ?_
  refine st_pure hE rfl 2 rfl rfl (.bool false) (by kernel_rfl) fun a hE => ?_
  refine st_nil ?_
  refine n_then ?_
  refine wp_seq ?_
  refine r_list ?_
  refine st_pure hE rfl 5 rfl rfl (.pointer (some ⟨b1, 2, none⟩)) (by kernel_rfl) fun a hE => ?_
  refine st_pure hE rfl 6 rfl rfl (.pointer (some ⟨b1, 2, none⟩)) (by kernel_rfl) fun a hE => ?_
  refine st_run hE rfl 7 rfl rfl (.int .i64 x0.Qid_.Type_) (ld_box hE hS 0 rfl rfl rfl (by kernel_rfl)) fun a hE => ?_
  obtain ⟨y1, h1, hF⟩ := bind_some hF
  refine go_call hE rfl 8 rfl rfl 64 _ (by kernel_rfl) (W_ref07_sum x0.Qid_.Type_ 232 _ h1 _ ) fun a v w hR hE => ?_
  obtain ⟨rfl, hq⟩ := hR
  have hS := hS.call hq rfl
  refine st_pure hE rfl 9 rfl rfl (.bool y1) (by kernel_rfl) fun a hE => ?_
  obtain ⟨y2, h2, hF⟩ := bind_some hF
  refine st_cut 5 (fun a w => Env 53 a [(14, .bool y2), (1, .pointer (some ⟨b1, 0, none⟩))] ∧ Sep [] w0 w [.box b1 27 (api_Dir.enc x0)]) ?_ ?_
  · rcases Bool.eq_false_or_eq_true y1 with hb | hb
    · have hE := hE.bool (t := 9) rfl hb
      have h2 := if_t h2 hb
      refine st_pure hE rfl 10 rfl rfl (.pointer (some ⟨b1, 2, none⟩)) (by kernel_rfl) fun a hE => ?_
      refine st_pure hE rfl 11 rfl rfl (.pointer (some ⟨b1, 3, none⟩)) (by kernel_rfl) fun a hE => ?_
      refine st_run hE rfl 12 rfl rfl (.int .i64 x0.Qid_.Vers_) (ld_box hE hS 0 rfl rfl rfl (by kernel_rfl)) fun a hE => ?_
      obtain ⟨y3, h3, h2⟩ := bind_some h2
      refine go_call hE rfl 13 rfl rfl 65 _ (by kernel_rfl) (W_ref07_in x0.Qid_.Vers_ 2147483647 _ h3 _ ) fun a v w hR hE => ?_
      obtain ⟨rfl, hq⟩ := hR
      have hS := hS.call hq rfl
      refine st_pure hE rfl 14 rfl rfl (.bool y3) (by kernel_rfl) fun a hE => ?_
      obtain rfl := Option.some.inj h2
      exact st_nil (n_then ⟨hE.sel ⟨rfl, rfl, trivial⟩, hS⟩)
    · have hE := hE.bool (t := 9) rfl hb
      have h2 := if_f h2 hb
      refine st_not hE rfl 10 rfl rfl fun a hE => ?_
      refine st_not hE rfl 11 rfl rfl fun a hE => ?_
      refine st_not hE rfl 12 rfl rfl fun a hE => ?_
      refine st_not hE rfl 13 rfl rfl fun a hE => ?_
      refine st_pure hE rfl 14 rfl rfl (.bool false) (by kernel_rfl) fun a hE => ?_
      obtain rfl := Option.some.inj h2
      exact st_nil (n_then ⟨hE.sel ⟨rfl, rfl, trivial⟩, hS⟩)
  rintro a w ⟨hE, hS⟩
  refine st_pure hE rfl 15 rfl rfl (.bool y2) (by kernel_rfl) fun a hE => ?_
  obtain ⟨y4, h4, hF⟩ := bind_some hF
  refine st_cut 5 (fun a w => Env 53 a [(20, .bool y4), (1, .pointer (some ⟨b1, 0, none⟩))] ∧ Sep [] w0 w [.box b1 27 (api_Dir.enc x0)]) ?_ ?_
  · rcases Bool.eq_false_or_eq_true y2 with hb | hb
    · have hE := hE.bool (t := 15) rfl hb
      have h4 := if_t h4 hb
      refine st_pure hE rfl 16 rfl rfl (.pointer (some ⟨b1, 2, none⟩)) (by kernel_rfl) fun a hE => ?_
      refine st_pure hE rfl 17 rfl rfl (.pointer (some ⟨b1, 4, none⟩)) (by kernel_rfl) fun a hE => ?_
      refine st_run hE rfl 18 rfl rfl (.int .i64 x0.Qid_.Path_) (ld_box hE hS 0 rfl rfl rfl (by kernel_rfl)) fun a hE => ?_
      obtain ⟨y5, h5, h4⟩ := bind_some h4
      refine go_call hE rfl 19 rfl rfl 65 _ (by kernel_rfl) (W_ref07_in x0.Qid_.Path_ 1099511627776 _ h5 _ ) fun a v w hR hE => ?_
      obtain ⟨rfl, hq⟩ := hR
      have hS := hS.call hq rfl
      refine st_pure hE rfl 20 rfl rfl (.bool y5) (by kernel_rfl) fun a hE => ?_
      obtain rfl := Option.some.inj h4
      exact st_nil (n_then ⟨hE.sel ⟨rfl, rfl, trivial⟩, hS⟩)
    · have hE := hE.bool (t := 15) rfl hb
      have h4 := if_f h4 hb
      refine st_not hE rfl 16 rfl rfl fun a hE => ?_
      refine st_not hE rfl 17 rfl rfl fun a hE => ?_
      refine st_not hE rfl 18 rfl rfl fun a hE => ?_
      refine st_not hE rfl 19 rfl rfl fun a hE => ?_
      refine st_pure hE rfl 20 rfl rfl (.bool false) (by kernel_rfl) fun a hE => ?_
      obtain rfl := Option.some.inj h4
      exact st_nil (n_then ⟨hE.sel ⟨rfl, rfl, trivial⟩, hS⟩)
  rintro a w ⟨hE, hS⟩
  refine st_pure hE rfl 3 rfl rfl (.bool y4) (by kernel_rfl) fun a hE => ?_
  refine st_nil ?_
  refine n_then ?_
  refine wp_seq ?_
  refine r_list ?_
  refine st_pure hE rfl 21 rfl rfl (.pointer (some ⟨b1, 5, none⟩)) (by kernel_rfl) fun a hE => ?_
  refine st_run hE rfl 22 rfl rfl (.int .i64 x0.Mode_) (ld_box hE hS 0 rfl rfl rfl (by kernel_rfl)) fun a hE => ?_
  obtain ⟨y6, h6, hF⟩ := bind_some hF
  refine go_call hE rfl 23 rfl rfl 64 _ (by kernel_rfl) (W_ref07_sum x0.Mode_ 3892314623 _ h6 _ ) fun a v w hR hE => ?_
  obtain ⟨rfl, hq⟩ := hR
  have hS := hS.call hq rfl
  refine st_pure hE rfl 4 rfl rfl (.bool y6) (by kernel_rfl) fun a hE => ?_
  refine st_nil ?_
  refine n_then ?_
  refine wp_seq ?_
  refine r_list ?_
  refine st_pure hE rfl 24 rfl rfl (.pointer (some ⟨b1, 0, none⟩)) (by kernel_rfl) fun a hE => ?_
  refine st_run hE rfl 25 rfl rfl (.int .i64 x0.Type_) (ld_box hE hS 0 rfl rfl rfl (by kernel_rfl)) fun a hE => ?_
  obtain ⟨y7, h7, hF⟩ := bind_some hF
  refine go_call hE rfl 26 rfl rfl 65 _ (by kernel_rfl) (W_ref07_in x0.Type_ 65534 _ h7 _ ) fun a v w hR hE => ?_
  obtain ⟨rfl, hq⟩ := hR
  have hS := hS.call hq rfl
  refine st_pure hE rfl 27 rfl rfl (.bool y7) (by kernel_rfl) fun a hE => ?_
  obtain ⟨y8, h8, hF⟩ := bind_some hF
  refine st_cut 4 (fun a w => Env 53 a [(31, .bool y8), (1, .pointer (some ⟨b1, 0, none⟩)), (3, .bool y4), (4, .bool y6)] ∧ Sep [] w0 w [.box b1 27 (api_Dir.enc x0)]) ?_ ?_
  · rcases Bool.eq_false_or_eq_true y7 with hb | hb
    · have hE := hE.bool (t := 27) rfl hb
      have h8 := if_t h8 hb
      refine st_pure hE rfl 28 rfl rfl (.pointer (some ⟨b1, 1, none⟩)) (by kernel_rfl) fun a hE => ?_
      refine st_run hE rfl 29 rfl rfl (.int .i64 x0.Dev_) (ld_box hE hS 0 rfl rfl rfl (by kernel_rfl)) fun a hE => ?_
      obtain ⟨y9, h9, h8⟩ := bind_some h8
      refine go_call hE rfl 30 rfl rfl 65 _ (by kernel_rfl) (W_ref07_in x0.Dev_ 4294967294 _ h9 _ ) fun a v w hR hE => ?_
      obtain ⟨rfl, hq⟩ := hR
      have hS := hS.call hq rfl
      refine st_pure hE rfl 31 rfl rfl (.bool y9) (by kernel_rfl) fun a hE => ?_
      obtain rfl := Option.some.inj h8
      exact st_nil (n_then ⟨hE.sel ⟨rfl, rfl, rfl, rfl, trivial⟩, hS⟩)
    · have hE := hE.bool (t := 27) rfl hb
      have h8 := if_f h8 hb
      refine st_not hE rfl 28 rfl rfl fun a hE => ?_
      refine st_not hE rfl 29 rfl rfl fun a hE => ?_
      refine st_not hE rfl 30 rfl rfl fun a hE => ?_
      refine st_pure hE rfl 31 rfl rfl (.bool false) (by kernel_rfl) fun a hE => ?_
      obtain rfl := Option.some.inj h8
      exact st_nil (n_then ⟨hE.sel ⟨rfl, rfl, rfl, rfl, trivial⟩, hS⟩)
  rintro a w ⟨hE, hS⟩
  refine st_pure hE rfl 32 rfl rfl (.bool y8) (by kernel_rfl) fun a hE => ?_
  refine st_cut 2 (fun a w => Env 53 a [(34, .bool (y8 && y4)), (1, .pointer (some ⟨b1, 0, none⟩)), (4, .bool y6)] ∧ Sep [] w0 w [.box b1 27 (api_Dir.enc x0)]) ?_ ?_
  · rcases Bool.eq_false_or_eq_true y8 with hb | hb
    · have hE := hE.bool (t := 32) rfl hb
      refine st_pure hE rfl 33 rfl rfl (.bool y4) (by kernel_rfl) fun a hE => ?_
      refine st_pure hE rfl 34 rfl rfl (.bool y4) (by kernel_rfl) fun a hE => ?_
      have hE := hE.re (t := 34) rfl (congrArg Value.bool (and_t (e := y4) hb))
      exact st_nil (n_then ⟨hE.sel ⟨rfl, rfl, rfl, trivial⟩, hS⟩)
    · have hE := hE.bool (t := 32) rfl hb
      refine st_not hE rfl 33 rfl rfl fun a hE => ?_
      refine st_pure hE rfl 34 rfl rfl (.bool false) (by kernel_rfl) fun a hE => ?_
      have hE := hE.re (t := 34) rfl (congrArg Value.bool (and_f (e := y4) hb))
      exact st_nil (n_then ⟨hE.sel ⟨rfl, rfl, rfl, trivial⟩, hS⟩)
  rintro a w ⟨hE, hS⟩
  refine st_pure hE rfl 35 rfl rfl (.bool (y8 && y4)) (by kernel_rfl) fun a hE => ?_
  refine st_cut 2 (fun a w => Env 53 a [(37, .bool ((y8 && y4) && y6)), (1, .pointer (some ⟨b1, 0, none⟩))] ∧ Sep [] w0 w [.box b1 27 (api_Dir.enc x0)]) ?_ ?_
  · rcases Bool.eq_false_or_eq_true (y8 && y4) with hb | hb
    · have hE := hE.bool (t := 35) rfl hb
      refine st_pure hE rfl 36 rfl rfl (.bool y6) (by kernel_rfl) fun a hE => ?_
      refine st_pure hE rfl 37 rfl rfl (.bool y6) (by kernel_rfl) fun a hE => ?_
      have hE := hE.re (t := 37) rfl (congrArg Value.bool (and_t (e := y6) hb))
      exact st_nil (n_then ⟨hE.sel ⟨rfl, rfl, trivial⟩, hS⟩)
    · have hE := hE.bool (t := 35) rfl hb
      refine st_not hE rfl 36 rfl rfl fun a hE => ?_
      refine st_pure hE rfl 37 rfl rfl (.bool false) (by kernel_rfl) fun a hE => ?_
      have hE := hE.re (t := 37) rfl (congrArg Value.bool (and_f (e := y6) hb))
      exact st_nil (n_then ⟨hE.sel ⟨rfl, rfl, trivial⟩, hS⟩)
  rintro a w ⟨hE, hS⟩
  refine st_pure hE rfl 38 rfl rfl (.bool ((y8 && y4) && y6)) (by kernel_rfl) fun a hE => ?_
  obtain ⟨y10, h10, hF⟩ := bind_some hF
  refine st_cut 4 (fun a w => Env 53 a [(42, .bool y10), (1, .pointer (some ⟨b1, 0, none⟩))] ∧ Sep [] w0 w [.box b1 27 (api_Dir.enc x0)]) ?_ ?_
  · rcases Bool.eq_false_or_eq_true ((y8 && y4) && y6) with hb | hb
    · have hE := hE.bool (t := 38) rfl hb
      have h10 := if_t h10 hb
      refine st_pure hE rfl 39 rfl rfl (.pointer (some ⟨b1, 6, none⟩)) (by kernel_rfl) fun a hE => ?_
      refine st_run hE rfl 40 rfl rfl (.int .i64 x0.Atime_) (ld_box hE hS 0 rfl rfl rfl (by kernel_rfl)) fun a hE => ?_
      obtain ⟨y11, h11, h10⟩ := bind_some h10
      refine go_call hE rfl 41 rfl rfl 65 _ (by kernel_rfl) (W_ref07_in x0.Atime_ 1099511627776 _ h11 _ ) fun a v w hR hE => ?_
      obtain ⟨rfl, hq⟩ := hR
      have hS := hS.call hq rfl
      refine st_pure hE rfl 42 rfl rfl (.bool y11) (by kernel_rfl) fun a hE => ?_
      obtain rfl := Option.some.inj h10
      exact st_nil (n_then ⟨hE.sel ⟨rfl, rfl, trivial⟩, hS⟩)
    · have hE := hE.bool (t := 38) rfl hb
      have h10 := if_f h10 hb
      refine st_not hE rfl 39 rfl rfl fun a hE => ?_
      refine st_not hE rfl 40 rfl rfl fun a hE => ?_
      refine st_not hE rfl 41 rfl rfl fun a hE => ?_
      refine st_pure hE rfl 42 rfl rfl (.bool false) (by kernel_rfl) fun a hE => ?_
      obtain rfl := Option.some.inj h10
      exact st_nil (n_then ⟨hE.sel ⟨rfl, rfl, trivial⟩, hS⟩)
  rintro a w ⟨hE, hS⟩
  refine st_pure hE rfl 43 rfl rfl (.bool y10) (by kernel_rfl) fun a hE => ?_
  obtain ⟨y12, h12, hF⟩ := bind_some hF
  refine st_cut 4 (fun a w => Env 53 a [(47, .bool y12), (1, .pointer (some ⟨b1, 0, none⟩))] ∧ Sep [] w0 w [.box b1 27 (api_Dir.enc x0)]) ?_ ?_
  · rcases Bool.eq_false_or_eq_true y10 with hb | hb
    · have hE := hE.bool (t := 43) rfl hb
      have h12 := if_t h12 hb
      refine st_pure hE rfl 44 rfl rfl (.pointer (some ⟨b1, 7, none⟩)) (by kernel_rfl) fun a hE => ?_
      refine st_run hE rfl 45 rfl rfl (.int .i64 x0.Mtime_) (ld_box hE hS 0 rfl rfl rfl (by kernel_rfl)) fun a hE => ?_
      obtain ⟨y13, h13, h12⟩ := bind_some h12
      refine go_call hE rfl 46 rfl rfl 65 _ (by kernel_rfl) (W_ref07_in x0.Mtime_ 1099511627776 _ h13 _ ) fun a v w hR hE => ?_
      obtain ⟨rfl, hq⟩ := hR
      have hS := hS.call hq rfl
      refine st_pure hE rfl 47 rfl rfl (.bool y13) (by kernel_rfl) fun a hE => ?_
      obtain rfl := Option.some.inj h12
      exact st_nil (n_then ⟨hE.sel ⟨rfl, rfl, trivial⟩, hS⟩)
    · have hE := hE.bool (t := 43) rfl hb
      have h12 := if_f h12 hb
      refine st_not hE rfl 44 rfl rfl fun a hE => ?_
      refine st_not hE rfl 45 rfl rfl fun a hE => ?_
      refine st_not hE rfl 46 rfl rfl fun a hE => ?_
      refine st_pure hE rfl 47 rfl rfl (.bool false) (by kernel_rfl) fun a hE => ?_
      obtain rfl := Option.some.inj h12
      exact st_nil (n_then ⟨hE.sel ⟨rfl, rfl, trivial⟩, hS⟩)
  rintro a w ⟨hE, hS⟩
  refine st_pure hE rfl 48 rfl rfl (.bool y12) (by kernel_rfl) fun a hE => ?_
  obtain ⟨y14, h14, hF⟩ := bind_some hF
  refine st_cut 4 (fun a w => Env 53 a [(52, .bool y14)] ∧ Sep [] w0 w [.box b1 27 (api_Dir.enc x0)]) ?_ ?_
  · rcases Bool.eq_false_or_eq_true y12 with hb | hb
    · have hE := hE.bool (t := 48) rfl hb
      have h14 := if_t h14 hb
      refine st_pure hE rfl 49 rfl rfl (.pointer (some ⟨b1, 8, none⟩)) (by kernel_rfl) fun a hE => ?_
      refine st_run hE rfl 50 rfl rfl (.int .i64 x0.Length_) (ld_box hE hS 0 rfl rfl rfl (by kernel_rfl)) fun a hE => ?_
      obtain ⟨y15, h15, h14⟩ := bind_some h14
      refine go_call hE rfl 51 rfl rfl 65 _ (by kernel_rfl) (W_ref07_in x0.Length_ 9007199254740991 _ h15 _ ) fun a v w hR hE => ?_
      obtain ⟨rfl, hq⟩ := hR
      have hS := hS.call hq rfl
      refine st_pure hE rfl 52 rfl rfl (.bool y15) (by kernel_rfl) fun a hE => ?_
      obtain rfl := Option.some.inj h14
      exact st_nil (n_then ⟨hE.sel ⟨rfl, trivial⟩, hS⟩)
    · have hE := hE.bool (t := 48) rfl hb
      have h14 := if_f h14 hb
      refine st_not hE rfl 49 rfl rfl fun a hE => ?_
      refine st_not hE rfl 50 rfl rfl fun a hE => ?_
      refine st_not hE rfl 51 rfl rfl fun a hE => ?_
      refine st_pure hE rfl 52 rfl rfl (.bool false) (by kernel_rfl) fun a hE => ?_
      obtain rfl := Option.some.inj h14
      exact st_nil (n_then ⟨hE.sel ⟨rfl, trivial⟩, hS⟩)
  rintro a w ⟨hE, hS⟩
  refine st_pure hE rfl 2 rfl rfl (.bool y14) (by kernel_rfl) fun a hE => ?_
  refine st_nil ?_
  refine n_then ?_
  refine wp_ret ?_
  obtain rfl := Option.some.inj hF
  exact out (rs := [.tmp 2]) (vs := [.bool y14]) rfl hE hS (.cons (.tmp rfl) .nil) ⟨rfl, hS.pick [] rfl rfl⟩
/-- filespace/filespaceref03.Valid -/
theorem W_ref03_Valid (x0 : Str) (r : Bool) (hF : ref03_Valid x0 = some r) (w0 : World)  : Ret Try.prog 53 #[S x0] w0 fun v w => v = .bool r ∧ Sep [] w0 w [] := by
  refine enter Try.func53 rfl rfl rfl fun a hE => ?_
  have hS := Sep.start [] w0
  unfold ref03_Valid at hF
  refine wp_seq ?_
  refine r_list ?_
  refine st_pure hE rfl 2 rfl rfl (.bool false) (by kernel_rfl) fun a hE => ?_
  refine st_nil ?_
  refine n_then ?_
  refine wp_seq ?_
  refine wp_seq ?_
  refine r_list ?_
  refine st_pure hE rfl 3 rfl rfl (.int .i64 0) (by kernel_rfl) fun a hE => ?_
  refine st_nil ?_
  refine n_then ?_
  obtain ⟨o1, g1, hF⟩ := bind_some hF
  refine w_meet (fun a w => ∃ s1, o1 = .fall s1 ∧ Env 42 a [(0, S x0)] ∧ Sep [] w0 w []) ?_ ?_
  · refine wp_block ?_
    refine loop_rule g1 (fun (s1 : Int) a w => Env 42 a [(0, S x0), (3, .int .i64 s1)] ∧ Sep [] w0 w []) ?_ ?_
    · exact ⟨hE.sel ⟨rfl, rfl, trivial⟩, hS.pick [] rfl rfl⟩
    rintro s1 a w ⟨hE, hS⟩ st hB1 hD1
    unfold ref03_Valid_L1 at hB1
    refine wp_seq ?_
    refine wp_seq ?_
    refine r_list ?_
    refine st_pure hE rfl 4 rfl rfl (.int .i64 s1) (by kernel_rfl) fun a hE => ?_
    refine st_pure hE rfl 5 rfl rfl (S x0) (by kernel_rfl) fun a hE => ?_
    refine st_pure hE rfl 6 rfl rfl (.int .i64 (x0.length : Int)) (by kernel_rfl) fun a hE => ?_
    refine st_pure hE rfl 7 rfl rfl (.bool (decide (s1 < (x0.length : Int)))) (by kernel_rfl) fun a hE => ?_
    refine st_nil ?_
    refine n_then ?_
    rcases (Bool.eq_false_or_eq_true (decide (s1 < (x0.length : Int)))).symm with hb | hb
    · have hB1 := if_f hB1 hb
      refine c_false hE rfl hb ?_
      refine wp_exit ?_
      refine e_then (e_then (e_in ?_))
      obtain rfl := Option.some.inj hB1
      have hd := hD1 _ rfl
      subst hd
      refine n_then ?_
      exact ⟨_, rfl, hE.sel ⟨rfl, trivial⟩, hS.pick [] rfl rfl⟩
    have hB1 := if_t hB1 hb
    refine c_true hE rfl hb ?_
    refine wp_skip ?_
    refine n_then ?_
    refine wp_seq ?_
    refine wp_block ?_
    refine wp_seq ?_
    refine r_list ?_
    refine st_pure hE rfl 10 rfl rfl (S x0) (by kernel_rfl) fun a hE => ?_
    refine st_pure hE rfl 11 rfl rfl (.int .i64 s1) (by kernel_rfl) fun a hE => ?_
    obtain ⟨y1, h1, hB1⟩ := bind_some hB1
    refine st_run hE rfl 12 rfl rfl (.int .u8 y1) (run_byteI rfl (by kernel_rfl) (hE.eval rfl) (hE.eval rfl) h1) fun a hE => ?_
    refine st_pure hE rfl 13 rfl rfl (.bool (decide (y1 < 33))) (by kernel_rfl) fun a hE => ?_
    refine st_pure hE rfl 14 rfl rfl (.bool (decide (y1 < 33))) (by kernel_rfl) fun a hE => ?_
    obtain ⟨y2, h2, hB1⟩ := bind_some hB1
    refine st_cut 5 (fun a w => Env 42 a [(19, .bool y2), (0, S x0), (3, .int .i64 s1)] ∧ Sep [] w0 w []) ?_ ?_
    · rcases Bool.eq_false_or_eq_true (decide (y1 < 33)) with hb | hb
      · have hE := hE.bool (t := 14) rfl hb
        have h2 := if_t h2 hb
        refine st_not hE rfl 15 rfl rfl fun a hE => ?_
        refine st_not hE rfl 16 rfl rfl fun a hE => ?_
        refine st_not hE rfl 17 rfl rfl fun a hE => ?_
        refine st_not hE rfl 18 rfl rfl fun a hE => ?_
        refine st_pure hE rfl 19 rfl rfl (.bool true) (by kernel_rfl) fun a hE => ?_
        obtain rfl := Option.some.inj h2
        exact st_nil (n_then ⟨hE.sel ⟨rfl, rfl, rfl, trivial⟩, hS⟩)
      · have hE := hE.bool (t := 14) rfl hb
        have h2 := if_f h2 hb
        refine st_pure hE rfl 15 rfl rfl (S x0) (by kernel_rfl) fun a hE => ?_
        refine st_pure hE rfl 16 rfl rfl (.int .i64 s1) (by kernel_rfl) fun a hE => ?_
        obtain ⟨y3, h3, h2⟩ := bind_some h2
        refine st_run hE rfl 17 rfl rfl (.int .u8 y3) (run_byteI rfl (by kernel_rfl) (hE.eval rfl) (hE.eval rfl) h3) fun a hE => ?_
        refine st_pure hE rfl 18 rfl rfl (.bool (decide (y3 > 126))) (by kernel_rfl) fun a hE => ?_
        refine st_pure hE rfl 19 rfl rfl (.bool (decide (y3 > 126))) (by kernel_rfl) fun a hE => ?_
        obtain rfl := Option.some.inj h2
        exact st_nil (n_then ⟨hE.sel ⟨rfl, rfl, rfl, trivial⟩, hS⟩)
    rintro a w ⟨hE, hS⟩
    refine st_pure hE rfl 20 rfl rfl (.bool y2) (by kernel_rfl) fun a hE => ?_
    obtain ⟨y4, h4, hB1⟩ := bind_some hB1
    refine st_cut 5 (fun a w => Env 42 a [(25, .bool y4), (0, S x0), (3, .int .i64 s1)] ∧ Sep [] w0 w []) ?_ ?_
    · rcases Bool.eq_false_or_eq_true y2 with hb | hb
      · have hE := hE.bool (t := 20) rfl hb
        have h4 := if_t h4 hb
        refine st_not hE rfl 21 rfl rfl fun a hE => ?_
        refine st_not hE rfl 22 rfl rfl fun a hE => ?_
        refine st_not hE rfl 23 rfl rfl fun a hE => ?_
        refine st_not hE rfl 24 rfl rfl fun a hE => ?_
        refine st_pure hE rfl 25 rfl rfl (.bool true) (by kernel_rfl) fun a hE => ?_
        obtain rfl := Option.some.inj h4
        exact st_nil (n_then ⟨hE.sel ⟨rfl, rfl, rfl, trivial⟩, hS⟩)
      · have hE := hE.bool (t := 20) rfl hb
        have h4 := if_f h4 hb
        refine st_pure hE rfl 21 rfl rfl (S x0) (by kernel_rfl) fun a hE => ?_
        refine st_pure hE rfl 22 rfl rfl (.int .i64 s1) (by kernel_rfl) fun a hE => ?_
        obtain ⟨y5, h5, h4⟩ := bind_some h4
        refine st_run hE rfl 23 rfl rfl (.int .u8 y5) (run_byteI rfl (by kernel_rfl) (hE.eval rfl) (hE.eval rfl) h5) fun a hE => ?_
        refine st_pure hE rfl 24 rfl rfl (.bool (y5 == 47)) (by kernel_rfl) fun a hE => ?_
        refine st_pure hE rfl 25 rfl rfl (.bool (y5 == 47)) (by kernel_rfl) fun a hE => ?_
        obtain rfl := Option.some.inj h4
        exact st_nil (n_then ⟨hE.sel ⟨rfl, rfl, rfl, trivial⟩, hS⟩)
    rintro a w ⟨hE, hS⟩
    refine st_nil ?_
    refine n_then ?_
    rcases Bool.eq_false_or_eq_true y4 with hb | hb
    · have hB1 := if_t hB1 hb
      refine c_true hE rfl hb ?_
      refine wp_seq ?_
      refine r_list ?_
      refine st_pure hE rfl 2 rfl rfl (.bool false) (by kernel_rfl) fun a hE => ?_
      refine st_nil ?_
      refine n_then ?_
      refine wp_ret ?_
      obtain rfl := Option.some.inj hB1
      have hd := hD1 _ rfl
      subst hd
      obtain rfl := Option.some.inj hF
      refine r_in (r_then (r_then (r_in (r_then (r_then ?_)))))
      exact out (rs := [.tmp 2]) (vs := [.bool false]) rfl hE hS (.cons (.tmp rfl) .nil) ⟨rfl, hS.pick [] rfl rfl⟩
    have hB1 := if_f hB1 hb
    refine c_false hE rfl hb ?_
    refine wp_skip ?_
    refine n_in ?_
    refine n_then ?_
    refine r_list ?_
    refine st_pure hE rfl 8 rfl rfl (.int .i64 s1) (by kernel_rfl) fun a hE => ?_
    refine st_pure hE rfl 9 rfl rfl (.int .i64 (w64 (s1 + 1))) (by kernel_rfl) fun a hE => ?_
    refine st_pure hE rfl 3 rfl rfl (.int .i64 (w64 (s1 + 1))) (by kernel_rfl) fun a hE => ?_
    refine st_nil ?_
    obtain rfl := Option.some.inj hB1
    refine n_then ?_
    exact ⟨_, rfl, hE.sel ⟨rfl, rfl, trivial⟩, hS.pick [] rfl rfl⟩
  rintro a w ⟨s1, rfl, hE, hS⟩
  replace hF := hF
  refine n_then ?_
  refine wp_seq ?_
  refine r_list ?_
  refine st_pure hE rfl 26 rfl rfl (S x0) (by kernel_rfl) fun a hE => ?_
  refine st_pure hE rfl 27 rfl rfl (.int .i64 (x0.length : Int)) (by kernel_rfl) fun a hE => ?_
  refine st_pure hE rfl 28 rfl rfl (.bool (decide ((x0.length : Int) ≥ 1))) (by kernel_rfl) fun a hE => ?_
  refine st_pure hE rfl 29 rfl rfl (.bool (decide ((x0.length : Int) ≥ 1))) (by kernel_rfl) fun a hE => ?_
  refine st_cut 4 (fun a w => Env 42 a [(33, .bool ((decide ((x0.length : Int) ≥ 1)) && (decide ((x0.length : Int) ≤ 64)))), (0, S x0)] ∧ Sep [] w0 w []) ?_ ?_
  · rcases Bool.eq_false_or_eq_true (decide ((x0.length : Int) ≥ 1)) with hb | hb
    · have hE := hE.bool (t := 29) rfl hb
      refine st_pure hE rfl 30 rfl rfl (S x0) (by kernel_rfl) fun a hE => ?_
      refine st_pure hE rfl 31 rfl rfl (.int .i64 (x0.length : Int)) (by kernel_rfl) fun a hE => ?_
      refine st_pure hE rfl 32 rfl rfl (.bool (decide ((x0.length : Int) ≤ 64))) (by kernel_rfl) fun a hE => ?_
      refine st_pure hE rfl 33 rfl rfl (.bool (decide ((x0.length : Int) ≤ 64))) (by kernel_rfl) fun a hE => ?_
      have hE := hE.re (t := 33) rfl (congrArg Value.bool (and_t (e := (decide ((x0.length : Int) ≤ 64))) hb))
      exact st_nil (n_then ⟨hE.sel ⟨rfl, rfl, trivial⟩, hS⟩)
    · have hE := hE.bool (t := 29) rfl hb
      refine st_not hE rfl 30 rfl rfl fun a hE => ?_
      refine st_not hE rfl 31 rfl rfl fun a hE => ?_
      refine st_not hE rfl 32 rfl rfl fun a hE => ?_
      refine st_pure hE rfl 33 rfl rfl (.bool false) (by kernel_rfl) fun a hE => ?_
      have hE := hE.re (t := 33) rfl (congrArg Value.bool (and_f (e := (decide ((x0.length : Int) ≤ 64))) hb))
      exact st_nil (n_then ⟨hE.sel ⟨rfl, rfl, trivial⟩, hS⟩)
  rintro a w ⟨hE, hS⟩
  refine st_pure hE rfl 34 rfl rfl (.bool ((decide ((x0.length : Int) ≥ 1)) && (decide ((x0.length : Int) ≤ 64)))) (by kernel_rfl) fun a hE => ?_
  refine st_cut 3 (fun a w => Env 42 a [(37, .bool (((decide ((x0.length : Int) ≥ 1)) && (decide ((x0.length : Int) ≤ 64))) && (!(x0 == [46])))), (0, S x0)] ∧ Sep [] w0 w []) ?_ ?_
  · rcases Bool.eq_false_or_eq_true ((decide ((x0.length : Int) ≥ 1)) && (decide ((x0.length : Int) ≤ 64))) with hb | hb
    · have hE := hE.bool (t := 34) rfl hb
      refine st_pure hE rfl 35 rfl rfl (S x0) (by kernel_rfl) fun a hE => ?_
      refine st_run hE rfl 36 rfl rfl (.bool (!(x0 == [46]))) (run_str_neq rfl (hE.eval rfl) (hE.eval rfl)) fun a hE => ?_
      refine st_pure hE rfl 37 rfl rfl (.bool (!(x0 == [46]))) (by kernel_rfl) fun a hE => ?_
      have hE := hE.re (t := 37) rfl (congrArg Value.bool (and_t (e := (!(x0 == [46]))) hb))
      exact st_nil (n_then ⟨hE.sel ⟨rfl, rfl, trivial⟩, hS⟩)
    · have hE := hE.bool (t := 34) rfl hb
      refine st_not hE rfl 35 rfl rfl fun a hE => ?_
      refine st_not hE rfl 36 rfl rfl fun a hE => ?_
      refine st_pure hE rfl 37 rfl rfl (.bool false) (by kernel_rfl) fun a hE => ?_
      have hE := hE.re (t := 37) rfl (congrArg Value.bool (and_f (e := (!(x0 == [46]))) hb))
      exact st_nil (n_then ⟨hE.sel ⟨rfl, rfl, trivial⟩, hS⟩)
  rintro a w ⟨hE, hS⟩
  refine st_pure hE rfl 38 rfl rfl (.bool (((decide ((x0.length : Int) ≥ 1)) && (decide ((x0.length : Int) ≤ 64))) && (!(x0 == [46])))) (by kernel_rfl) fun a hE => ?_
  refine st_cut 3 (fun a w => Env 42 a [(41, .bool ((((decide ((x0.length : Int) ≥ 1)) && (decide ((x0.length : Int) ≤ 64))) && (!(x0 == [46]))) && (!(x0 == [46, 46]))))] ∧ Sep [] w0 w []) ?_ ?_
  · rcases Bool.eq_false_or_eq_true (((decide ((x0.length : Int) ≥ 1)) && (decide ((x0.length : Int) ≤ 64))) && (!(x0 == [46]))) with hb | hb
    · have hE := hE.bool (t := 38) rfl hb
      refine st_pure hE rfl 39 rfl rfl (S x0) (by kernel_rfl) fun a hE => ?_
      refine st_run hE rfl 40 rfl rfl (.bool (!(x0 == [46, 46]))) (run_str_neq rfl (hE.eval rfl) (hE.eval rfl)) fun a hE => ?_
      refine st_pure hE rfl 41 rfl rfl (.bool (!(x0 == [46, 46]))) (by kernel_rfl) fun a hE => ?_
      have hE := hE.re (t := 41) rfl (congrArg Value.bool (and_t (e := (!(x0 == [46, 46]))) hb))
      exact st_nil (n_then ⟨hE.sel ⟨rfl, trivial⟩, hS⟩)
    · have hE := hE.bool (t := 38) rfl hb
      refine st_not hE rfl 39 rfl rfl fun a hE => ?_
      refine st_not hE rfl 40 rfl rfl fun a hE => ?_
      refine st_pure hE rfl 41 rfl rfl (.bool false) (by kernel_rfl) fun a hE => ?_
      have hE := hE.re (t := 41) rfl (congrArg Value.bool (and_f (e := (!(x0 == [46, 46]))) hb))
      exact st_nil (n_then ⟨hE.sel ⟨rfl, trivial⟩, hS⟩)
  rintro a w ⟨hE, hS⟩
  refine st_pure hE rfl 2 rfl rfl (.bool ((((decide ((x0.length : Int) ≥ 1)) && (decide ((x0.length : Int) ≤ 64))) && (!(x0 == [46]))) && (!(x0 == [46, 46])))) (by kernel_rfl) fun a hE => ?_
  refine st_nil ?_
  refine n_then ?_
  refine wp_ret ?_
  obtain rfl := Option.some.inj hF
  exact out (rs := [.tmp 2]) (vs := [.bool ((((decide ((x0.length : Int) ≥ 1)) && (decide ((x0.length : Int) ≤ 64))) && (!(x0 == [46]))) && (!(x0 == [46, 46])))]) rfl hE hS (.cons (.tmp rfl) .nil) ⟨rfl, hS.pick [] rfl rfl⟩
/-- filespace/filespaceref07.Check -/
theorem W_ref07_Check (x0 : api_Dir) (r : Int) (hF : ref07_Check x0 = some r) (w0 : World)  : Ret Try.prog 30 #[.agg (api_Dir.enc x0).toArray] w0 fun v w => v = .int .i64 r ∧ Sep [] w0 w [] := by
  refine enter Try.func30 rfl rfl rfl fun a hE => ?_
  have hS := Sep.start [] w0
  unfold ref07_Check at hF
  refine wp_seq ?_
  refine r_list ?_
  refine go_box hE hS rfl 1 rfl rfl 27 (api_Dir.enc x0) (fun _ => by kernel_rfl) fun a w b1 hx hE hS => ?_
  refine st_pure hE rfl 2 rfl rfl (.int .i64 0) (by kernel_rfl) fun a hE => ?_
  refine st_nil ?_
  refine n_then ?_
  refine wp_seq ?_
  refine wp_seq ?_
  refine r_list ?_
  refine st_run hE rfl 3 rfl rfl (.agg (api_Dir.enc x0).toArray) (ld_box hE hS 0 rfl rfl rfl (by kernel_rfl)) fun a hE => ?_
  obtain ⟨y1, h1, hF⟩ := bind_some hF
  refine go_call hE rfl 4 rfl rfl 52 _ (by kernel_rfl) (W_ref07_Numbers x0 _ h1 _ ) fun a v w hR hE => ?_
  obtain ⟨rfl, hq⟩ := hR
  have hS := hS.call hq rfl
  refine st_pure hE rfl 5 rfl rfl (.bool (!y1)) (by kernel_rfl) fun a hE => ?_
  refine st_nil ?_
  refine n_then ?_
  rcases Bool.eq_false_or_eq_true (!y1) with hb | hb
  · have hF := if_t hF hb
    refine c_true hE rfl hb ?_
    refine wp_seq ?_
    refine r_list ?_
    refine st_pure hE rfl 2 rfl rfl (.int .i64 5) (by kernel_rfl) fun a hE => ?_
    refine st_nil ?_
    refine n_then ?_
    refine wp_ret ?_
    obtain rfl := Option.some.inj hF
    refine r_then ?_
    exact out (rs := [.tmp 2]) (vs := [.int .i64 5]) rfl hE hS (.cons (.tmp rfl) .nil) ⟨rfl, hS.pick [] rfl rfl⟩
  have hF := if_f hF hb
  refine c_false hE rfl hb ?_
  refine wp_skip ?_
  refine n_then ?_
  refine wp_seq ?_
  refine wp_seq ?_
  refine r_list ?_
  refine st_pure hE rfl 6 rfl rfl (.pointer (some ⟨b1, 9, none⟩)) (by kernel_rfl) fun a hE => ?_
  refine st_run hE rfl 7 rfl rfl (S x0.Name_) (ld_box hE hS 0 rfl rfl rfl (by kernel_rfl)) fun a hE => ?_
  refine st_run hE rfl 8 rfl rfl (.bool (!(x0.Name_ == []))) (run_str_neq rfl (hE.eval rfl) (hE.eval rfl)) fun a hE => ?_
  refine st_pure hE rfl 9 rfl rfl (.bool (!(x0.Name_ == []))) (by kernel_rfl) fun a hE => ?_
  refine st_cut 4 (fun a w => Env 38 a [(13, .bool ((!(x0.Name_ == [])) && (!(x0.Name_ == [47])))), (1, .pointer (some ⟨b1, 0, none⟩))] ∧ Sep [] w0 w [.box b1 27 (api_Dir.enc x0)]) ?_ ?_
  · rcases Bool.eq_false_or_eq_true (!(x0.Name_ == [])) with hb | hb
    · have hE := hE.bool (t := 9) rfl hb
      refine st_pure hE rfl 10 rfl rfl (.pointer (some ⟨b1, 9, none⟩)) (by kernel_rfl) fun a hE => ?_
      refine st_run hE rfl 11 rfl rfl (S x0.Name_) (ld_box hE hS 0 rfl rfl rfl (by kernel_rfl)) fun a hE => ?_
      refine st_run hE rfl 12 rfl rfl (.bool (!(x0.Name_ == [47]))) (run_str_neq rfl (hE.eval rfl) (hE.eval rfl)) fun a hE => ?_
      refine st_pure hE rfl 13 rfl rfl (.bool (!(x0.Name_ == [47]))) (by kernel_rfl) fun a hE => ?_
      have hE := hE.re (t := 13) rfl (congrArg Value.bool (and_t (e := (!(x0.Name_ == [47]))) hb))
      exact st_nil (n_then ⟨hE.sel ⟨rfl, rfl, trivial⟩, hS⟩)
    · have hE := hE.bool (t := 9) rfl hb
      refine st_not hE rfl 10 rfl rfl fun a hE => ?_
      refine st_not hE rfl 11 rfl rfl fun a hE => ?_
      refine st_not hE rfl 12 rfl rfl fun a hE => ?_
      refine st_pure hE rfl 13 rfl rfl (.bool false) (by kernel_rfl) fun a hE => ?_
      have hE := hE.re (t := 13) rfl (congrArg Value.bool (and_f (e := (!(x0.Name_ == [47]))) hb))
      exact st_nil (n_then ⟨hE.sel ⟨rfl, rfl, trivial⟩, hS⟩)
  rintro a w ⟨hE, hS⟩
  refine st_pure hE rfl 14 rfl rfl (.bool ((!(x0.Name_ == [])) && (!(x0.Name_ == [47])))) (by kernel_rfl) fun a hE => ?_
  obtain ⟨y2, h2, hF⟩ := bind_some hF
  refine st_cut 5 (fun a w => Env 38 a [(19, .bool y2), (1, .pointer (some ⟨b1, 0, none⟩))] ∧ Sep [] w0 w [.box b1 27 (api_Dir.enc x0)]) ?_ ?_
  · rcases Bool.eq_false_or_eq_true ((!(x0.Name_ == [])) && (!(x0.Name_ == [47]))) with hb | hb
    · have hE := hE.bool (t := 14) rfl hb
      have h2 := if_t h2 hb
      refine st_pure hE rfl 15 rfl rfl (.pointer (some ⟨b1, 9, none⟩)) (by kernel_rfl) fun a hE => ?_
      refine st_run hE rfl 16 rfl rfl (S x0.Name_) (ld_box hE hS 0 rfl rfl rfl (by kernel_rfl)) fun a hE => ?_
      obtain ⟨y3, h3, h2⟩ := bind_some h2
      refine go_call hE rfl 17 rfl rfl 53 _ (by kernel_rfl) (W_ref03_Valid x0.Name_ _ h3 _ ) fun a v w hR hE => ?_
      obtain ⟨rfl, hq⟩ := hR
      have hS := hS.call hq rfl
      refine st_pure hE rfl 18 rfl rfl (.bool (!y3)) (by kernel_rfl) fun a hE => ?_
      refine st_pure hE rfl 19 rfl rfl (.bool (!y3)) (by kernel_rfl) fun a hE => ?_
      obtain rfl := Option.some.inj h2
      exact st_nil (n_then ⟨hE.sel ⟨rfl, rfl, trivial⟩, hS⟩)
    · have hE := hE.bool (t := 14) rfl hb
      have h2 := if_f h2 hb
      refine st_not hE rfl 15 rfl rfl fun a hE => ?_
      refine st_not hE rfl 16 rfl rfl fun a hE => ?_
      refine st_not hE rfl 17 rfl rfl fun a hE => ?_
      refine st_not hE rfl 18 rfl rfl fun a hE => ?_
      refine st_pure hE rfl 19 rfl rfl (.bool false) (by kernel_rfl) fun a hE => ?_
      obtain rfl := Option.some.inj h2
      exact st_nil (n_then ⟨hE.sel ⟨rfl, rfl, trivial⟩, hS⟩)
  rintro a w ⟨hE, hS⟩
  refine st_pure hE rfl 20 rfl rfl (.bool y2) (by kernel_rfl) fun a hE => ?_
  refine st_cut 5 (fun a w => Env 38 a [(25, .bool (y2 || (decide ((x0.Uid_.length : Int) > 64)))), (1, .pointer (some ⟨b1, 0, none⟩))] ∧ Sep [] w0 w [.box b1 27 (api_Dir.enc x0)]) ?_ ?_
  · rcases Bool.eq_false_or_eq_true y2 with hb | hb
    · have hE := hE.bool (t := 20) rfl hb
      refine st_not hE rfl 21 rfl rfl fun a hE => ?_
      refine st_not hE rfl 22 rfl rfl fun a hE => ?_
      refine st_not hE rfl 23 rfl rfl fun a hE => ?_
      refine st_not hE rfl 24 rfl rfl fun a hE => ?_
      refine st_pure hE rfl 25 rfl rfl (.bool true) (by kernel_rfl) fun a hE => ?_
      have hE := hE.re (t := 25) rfl (congrArg Value.bool (or_t (e := (decide ((x0.Uid_.length : Int) > 64))) hb))
      exact st_nil (n_then ⟨hE.sel ⟨rfl, rfl, trivial⟩, hS⟩)
    · have hE := hE.bool (t := 20) rfl hb
      refine st_pure hE rfl 21 rfl rfl (.pointer (some ⟨b1, 10, none⟩)) (by kernel_rfl) fun a hE => ?_
      refine st_run hE rfl 22 rfl rfl (S x0.Uid_) (ld_box hE hS 0 rfl rfl rfl (by kernel_rfl)) fun a hE => ?_
      refine st_pure hE rfl 23 rfl rfl (.int .i64 (x0.Uid_.length : Int)) (by kernel_rfl) fun a hE => ?_
      refine st_pure hE rfl 24 rfl rfl (.bool (decide ((x0.Uid_.length : Int) > 64))) (by kernel_rfl) fun a hE => ?_
      refine st_pure hE rfl 25 rfl rfl (.bool (decide ((x0.Uid_.length : Int) > 64))) (by kernel_rfl) fun a hE => ?_
      have hE := hE.re (t := 25) rfl (congrArg Value.bool (or_f (e := (decide ((x0.Uid_.length : Int) > 64))) hb))
      exact st_nil (n_then ⟨hE.sel ⟨rfl, rfl, trivial⟩, hS⟩)
  rintro a w ⟨hE, hS⟩
  refine st_pure hE rfl 26 rfl rfl (.bool (y2 || (decide ((x0.Uid_.length : Int) > 64)))) (by kernel_rfl) fun a hE => ?_
  refine st_cut 5 (fun a w => Env 38 a [(31, .bool ((y2 || (decide ((x0.Uid_.length : Int) > 64))) || (decide ((x0.Gid_.length : Int) > 64)))), (1, .pointer (some ⟨b1, 0, none⟩))] ∧ Sep [] w0 w [.box b1 27 (api_Dir.enc x0)]) ?_ ?_
  · rcases Bool.eq_false_or_eq_true (y2 || (decide ((x0.Uid_.length : Int) > 64))) with hb | hb
    · have hE := hE.bool (t := 26) rfl hb
      refine st_not hE rfl 27 rfl rfl fun a hE => ?_
      refine st_not hE rfl 28 rfl rfl fun a hE => ?_
      refine st_not hE rfl 29 rfl rfl fun a hE => ?_
      refine st_not hE rfl 30 rfl rfl fun a hE => ?_
      refine st_pure hE rfl 31 rfl rfl (.bool true) (by kernel_rfl) fun a hE => ?_
      have hE := hE.re (t := 31) rfl (congrArg Value.bool (or_t (e := (decide ((x0.Gid_.length : Int) > 64))) hb))
      exact st_nil (n_then ⟨hE.sel ⟨rfl, rfl, trivial⟩, hS⟩)
    · have hE := hE.bool (t := 26) rfl hb
      refine st_pure hE rfl 27 rfl rfl (.pointer (some ⟨b1, 11, none⟩)) (by kernel_rfl) fun a hE => ?_
      refine st_run hE rfl 28 rfl rfl (S x0.Gid_) (ld_box hE hS 0 rfl rfl rfl (by kernel_rfl)) fun a hE => ?_
      refine st_pure hE rfl 29 rfl rfl (.int .i64 (x0.Gid_.length : Int)) (by kernel_rfl) fun a hE => ?_
      refine st_pure hE rfl 30 rfl rfl (.bool (decide ((x0.Gid_.length : Int) > 64))) (by kernel_rfl) fun a hE => ?_
      refine st_pure hE rfl 31 rfl rfl (.bool (decide ((x0.Gid_.length : Int) > 64))) (by kernel_rfl) fun a hE => ?_
      have hE := hE.re (t := 31) rfl (congrArg Value.bool (or_f (e := (decide ((x0.Gid_.length : Int) > 64))) hb))
      exact st_nil (n_then ⟨hE.sel ⟨rfl, rfl, trivial⟩, hS⟩)
  rintro a w ⟨hE, hS⟩
  refine st_pure hE rfl 32 rfl rfl (.bool ((y2 || (decide ((x0.Uid_.length : Int) > 64))) || (decide ((x0.Gid_.length : Int) > 64)))) (by kernel_rfl) fun a hE => ?_
  refine st_cut 5 (fun a w => Env 38 a [(37, .bool (((y2 || (decide ((x0.Uid_.length : Int) > 64))) || (decide ((x0.Gid_.length : Int) > 64))) || (decide ((x0.Muid_.length : Int) > 64))))] ∧ Sep [] w0 w [.box b1 27 (api_Dir.enc x0)]) ?_ ?_
  · rcases Bool.eq_false_or_eq_true ((y2 || (decide ((x0.Uid_.length : Int) > 64))) || (decide ((x0.Gid_.length : Int) > 64))) with hb | hb
    · have hE := hE.bool (t := 32) rfl hb
      refine st_not hE rfl 33 rfl rfl fun a hE => ?_
      refine st_not hE rfl 34 rfl rfl fun a hE => ?_
      refine st_not hE rfl 35 rfl rfl fun a hE => ?_
      refine st_not hE rfl 36 rfl rfl fun a hE => ?_
      refine st_pure hE rfl 37 rfl rfl (.bool true) (by kernel_rfl) fun a hE => ?_
      have hE := hE.re (t := 37) rfl (congrArg Value.bool (or_t (e := (decide ((x0.Muid_.length : Int) > 64))) hb))
      exact st_nil (n_then ⟨hE.sel ⟨rfl, trivial⟩, hS⟩)
    · have hE := hE.bool (t := 32) rfl hb
      refine st_pure hE rfl 33 rfl rfl (.pointer (some ⟨b1, 12, none⟩)) (by kernel_rfl) fun a hE => ?_
      refine st_run hE rfl 34 rfl rfl (S x0.Muid_) (ld_box hE hS 0 rfl rfl rfl (by kernel_rfl)) fun a hE => ?_
      refine st_pure hE rfl 35 rfl rfl (.int .i64 (x0.Muid_.length : Int)) (by kernel_rfl) fun a hE => ?_
      refine st_pure hE rfl 36 rfl rfl (.bool (decide ((x0.Muid_.length : Int) > 64))) (by kernel_rfl) fun a hE => ?_
      refine st_pure hE rfl 37 rfl rfl (.bool (decide ((x0.Muid_.length : Int) > 64))) (by kernel_rfl) fun a hE => ?_
      have hE := hE.re (t := 37) rfl (congrArg Value.bool (or_f (e := (decide ((x0.Muid_.length : Int) > 64))) hb))
      exact st_nil (n_then ⟨hE.sel ⟨rfl, trivial⟩, hS⟩)
  rintro a w ⟨hE, hS⟩
  refine st_nil ?_
  refine n_then ?_
  rcases Bool.eq_false_or_eq_true (((y2 || (decide ((x0.Uid_.length : Int) > 64))) || (decide ((x0.Gid_.length : Int) > 64))) || (decide ((x0.Muid_.length : Int) > 64))) with hb | hb
  · have hF := if_t hF hb
    refine c_true hE rfl hb ?_
    refine wp_seq ?_
    refine r_list ?_
    refine st_pure hE rfl 2 rfl rfl (.int .i64 6) (by kernel_rfl) fun a hE => ?_
    refine st_nil ?_
    refine n_then ?_
    refine wp_ret ?_
    obtain rfl := Option.some.inj hF
    refine r_then ?_
    exact out (rs := [.tmp 2]) (vs := [.int .i64 6]) rfl hE hS (.cons (.tmp rfl) .nil) ⟨rfl, hS.pick [] rfl rfl⟩
  have hF := if_f hF hb
  refine c_false hE rfl hb ?_
  refine wp_skip ?_
  refine n_then ?_
  refine wp_seq ?_
  refine r_list ?_
  refine st_pure hE rfl 2 rfl rfl (.int .i64 0) (by kernel_rfl) fun a hE => ?_
  refine st_nil ?_
  refine n_then ?_
  refine wp_ret ?_
  obtain rfl := Option.some.inj hF
  exact out (rs := [.tmp 2]) (vs := [.int .i64 0]) rfl hE hS (.cons (.tmp rfl) .nil) ⟨rfl, hS.pick [] rfl rfl⟩
end Go.Proofs.Ytglcohgjcjaamaa
