import Derived.Test.YtboplmpnjepdnaaGreatQx3
import Derived.Test.YtboplmpnjepdnaaGreatQx2
import Derived.Test.YtboplmpnjepdnaaGreatSo
import Derived.Test.YtboplmpnjepdnaaGreatTe
/-
  Plain laws: the reference's descriptions, read from bytes. No program in sight.
-/
namespace Go.Proofs.YtboplmpnjepdnaaGreat
open Go.Rt Go.RowKit

theorem number_loop (s : Str) (at_ w : Nat) (h1 : 1 ≤ w) (h8 : w ≤ 8) (h : at_ + w ≤ s.length) (hs : s.length ≤ 9223372036854775807) :
    loopF (ref07_number_L1 s (at_ : Int)) BIG (0, true, w64 ((w : Int) - 1)) = some ((if leV (win s at_ w) > 9223372036854775807 then 9223372036854775807 else (leV (win s at_ w) : Int)), all255 (win s at_ w)) := by
  have hB : BIG = 18446744073709551616 := rfl
  let V : Nat → Nat := fun j => leV ((win s at_ w).drop (w - j))
  let C : Nat → Bool := fun j => all255 ((win s at_ w).drop (w - j))
  let R : Nat → Int := fun j => if V j > 9223372036854775807 then 9223372036854775807 else (V j : Int)
  have hw := loop_traj (body := ref07_number_L1 s (at_ : Int)) (fun j => (R j, C j, (w : Int) - 1 - (j : Int))) w (by omega) (b := (R w, C w)) (fun j hj => ?_) ?_
  · have e : (win s at_ w).drop (w - 0) = [] := List.drop_eq_nil_of_le (by rw [win_len h]; omega)
    have e2 : (win s at_ w).drop (w - w) = win s at_ w := by simp
    have r0 : R 0 = 0 := by simp only [R, V, e, leV]; rfl
    have c0 : C 0 = true := by simp only [C, e]; rfl
    simp only [r0, c0] at hw
    rw [w64_eq ⟨by omega, by omega⟩]
    simp only [R, V, C, e2] at hw
    simpa using hw
  · unfold ref07_number_L1
    have hlt : V j < 2 ^ (8 * j) := by
      have := leV_lt ((win s at_ w).drop (w - j))
      rwa [show ((win s at_ w).drop (w - j)).length = j by rw [List.length_drop, win_len h]; omega] at this
    have hpw : 2 ^ (8 * j) ≤ 2 ^ 56 := Nat.pow_le_pow_right (by omega) (by omega)
    have hRj : R j = (V j : Int) := by simp only [R]; rw [if_neg (by omega)]
    have ei : w64 ((at_ : Int) + ((w : Int) - 1 - (j : Int))) = ((at_ + (w - 1 - j) : Nat) : Int) := by
      rw [w64_eq ⟨by omega, by omega⟩]; omega
    have hby := byteI_lt (s := s) (i := at_ + (w - 1 - j)) (by omega)
    have hV : V (j + 1) = (s[at_ + (w - 1 - j)]'(by omega)).toNat + 256 * V j := by simp only [V]; rw [win_drop h hj]; rfl
    have hC : C (j + 1) = ((s[at_ + (w - 1 - j)]'(by omega)) == 255 && C j) := by simp only [C]; rw [win_drop h hj]; rfl
    generalize s[at_ + (w - 1 - j)]'(by omega) = b at hby hV hC
    have hb := b.toNat_lt
    have hb255 : (((b.toNat : Nat) : Int) == 255) = (b == 255) := by
      rw [Bool.eq_iff_iff]
      simp only [beq_iff_eq]
      constructor
      · intro hh
        apply UInt8.toNat_inj.1
        show b.toNat = 255
        omega
      · intro hh
        rw [hh]; rfl
    refine cond_t (by simp; omega) ?_
    refine bind_eq (a := (R (j + 1), C (j + 1))) ?_ ?_
    · refine bind_eq (a := C (j + 1)) ?_ ?_
      · show (bif C j then Option.bind (byteI s (w64 ((at_ : Int) + ((w : Int) - 1 - (j : Int))))) _ else some false) = _
        cases hc : C j with
        | true =>
          refine cond_t rfl ?_
          rw [ei]
          refine bind_eq hby ?_
          rw [hb255, hC, hc, Bool.and_true]
        | false =>
          refine cond_f rfl ?_
          rw [hC, hc, Bool.and_false]
      · show (bif decide (R j ≥ 36028797018963968) then _ else _) = _
        by_cases hs55 : V j ≥ 36028797018963968
        · refine cond_t (by rw [hRj]; simp; omega) ?_
          have hR : R (j + 1) = 9223372036854775807 := by simp only [R]; rw [if_pos (by omega)]
          rw [hR]
        · refine cond_f (by rw [hRj]; simp; omega) ?_
          show Option.bind (byteI s (w64 ((at_ : Int) + ((w : Int) - 1 - (j : Int))))) _ = _
          rw [ei]
          refine bind_eq hby ?_
          have hR : R (j + 1) = ((b.toNat + 256 * V j : Nat) : Int) := by simp only [R]; rw [if_neg (by omega), hV]
          rw [hR, hRj, w64_eq (n := (V j : Int) * 256) ⟨by omega, by omega⟩, w64_eq (n := (b.toNat : Int)) ⟨by omega, by omega⟩, w64_eq (n := (V j : Int) * 256 + (b.toNat : Int)) ⟨by omega, by omega⟩]
          congr 2
          omega
    · show some (Step.next (R (j + 1), C (j + 1), w64 ((w : Int) - 1 - (j : Int) - 1))) = _
      rw [w64_eq ⟨by omega, by omega⟩]
      congr 4
      omega
  · unfold ref07_number_L1
    exact cond_f (by simp; omega) rfl
theorem ref_number_eq (s : Str) (at_ w : Nat) (h1 : 1 ≤ w) (h8 : w ≤ 8) (h : at_ + w ≤ s.length) (hs : s.length ≤ 9223372036854775807) : ref07_number s (at_ : Int) (w : Int) = some (numF (win s at_ w)) := by
  unfold ref07_number
  refine bind_eq (number_loop s at_ w h1 h8 h hs) ?_
  unfold numF
  cases hc : all255 (win s at_ w) with
  | true => exact cond_t rfl (by simp)
  | false => exact cond_f rfl (by simp)

def putA (x : Arr4_string) (i : Nat) (t : Str) : Arr4_string := match i with
  | 0 => ⟨t, x.a1_, x.a2_, x.a3_⟩
  | 1 => ⟨x.a0_, t, x.a2_, x.a3_⟩
  | 2 => ⟨x.a0_, x.a1_, t, x.a3_⟩
  | _ => ⟨x.a0_, x.a1_, x.a2_, t⟩
theorem texts_body (s : Str) (arr : Arr4_string) (a i : Nat) (hi : i < 4) (h : a ≤ s.length) (hs : s.length ≤ 1000000) :
    ref07_texts_L1 s ((a : Int), (i : Int), arr) = match takeT s a with
      | none => some (.done (.ret (arr, false)))
      | some (t, p) => some (.next ((p : Int), ((i + 1 : Nat) : Int), putA arr i t)) := by
  unfold ref07_texts_L1 takeT
  refine cond_t (by simp; omega) ?_
  have e1 : w64 ((s.length : Int) - (a : Int)) = ((s.length - a : Nat) : Int) := by rw [w64_eq ⟨by omega, by omega⟩]; omega
  by_cases h2 : s.length < a + 2
  · rw [if_pos h2]
    refine cond_t ?_ rfl
    show decide (w64 ((s.length : Int) - (a : Int)) < 2) = true
    rw [e1]; simp only [decide_eq_true_eq]; omega
  · rw [if_neg h2]
    refine cond_f ?_ ?_
    · show decide (w64 ((s.length : Int) - (a : Int)) < 2) = false
      rw [e1]; simp only [decide_eq_false_iff_not]; omega
    have b1 := byteI_lt (s := s) (i := a) (by omega)
    have b2 := byteI_lt (s := s) (i := a + 1) (by omega)
    have hv := two_bytes s a (by omega)
    have hv2 := leV_two s a (by omega)
    generalize s[a]'(by omega) = y1 at b1 hv
    generalize s[a + 1]'(by omega) = y2 at b2 hv
    have g1 := y1.toNat_lt
    have g2 := y2.toNat_lt
    have ea : w64 ((a : Int) + 1) = ((a + 1 : Nat) : Int) := by rw [w64_eq ⟨by omega, by omega⟩]; omega
    have en : w64 (w64 (y1.toNat : Int) + w64 (256 * w64 (y2.toNat : Int))) = (leV (win s a 2) : Int) := by
      rw [w64_eq (n := (y1.toNat : Int)) ⟨by omega, by omega⟩, w64_eq (n := (y2.toNat : Int)) ⟨by omega, by omega⟩, w64_eq (n := 256 * (y2.toNat : Int)) ⟨by omega, by omega⟩, w64_eq ⟨by omega, by omega⟩, hv]
      omega
    refine bind_eq b1 ?_
    show Option.bind (byteI s (w64 ((a : Int) + 1))) _ = _
    rw [ea]
    refine bind_eq b2 ?_
    show (bif decide (w64 (w64 ((s.length : Int) - (a : Int)) - 2) < w64 (w64 (y1.toNat : Int) + w64 (256 * w64 (y2.toNat : Int)))) then _ else _) = _
    rw [en, e1]
    have e3 : w64 (((s.length - a : Nat) : Int) - 2) = ((s.length - a - 2 : Nat) : Int) := by rw [w64_eq ⟨by omega, by omega⟩]; omega
    rw [e3]
    by_cases h3 : s.length < a + 2 + leV (win s a 2)
    · rw [if_pos h3]
      exact cond_t (by simp only [decide_eq_true_eq]; omega) rfl
    · rw [if_neg h3]
      refine cond_f (by simp only [decide_eq_false_iff_not]; omega) ?_
      have e4 : w64 ((a : Int) + 2) = ((a + 2 : Nat) : Int) := by rw [w64_eq ⟨by omega, by omega⟩]; omega
      have e5 : w64 (((a + 2 : Nat) : Int) + (leV (win s a 2) : Int)) = ((a + 2 + leV (win s a 2) : Nat) : Int) := by rw [w64_eq ⟨by omega, by omega⟩]; omega
      have hsub := win_sub s (a + 2) (leV (win s a 2)) (by omega) (by omega)
      show Option.bind (subI s (w64 ((a : Int) + 2)) (w64 (w64 ((a : Int) + 2) + (leV (win s a 2) : Int)))) _ = _
      rw [e4]
      refine bind_eq hsub ?_
      rw [e5]
      have e6 : w64 ((i : Int) + 1) = ((i + 1 : Nat) : Int) := by rw [w64_eq ⟨by omega, by omega⟩]; rfl
      rw [e6]
      match i, hi with
      | 0, _ => rfl
      | 1, _ => rfl
      | 2, _ => rfl
      | 3, _ => rfl
theorem texts_eq (s : Str) (hs : s.length ≤ 1000000) : match take4 s 0 with
    | some (t1, t2, t3, t4, p) => ref07_texts s = some (⟨t1, t2, t3, t4⟩, (p : Int) == (s.length : Int))
    | none => ∃ arr, ref07_texts s = some (arr, false) := by
  have hB : BIG = 18446744073709551611 + 1 + 1 + 1 + 1 + 1 := rfl
  unfold ref07_texts take4
  rw [hB]
  let z : Arr4_string := ⟨[], [], [], []⟩
  have b0 := texts_body s z 0 0 (by omega) (by omega) hs
  cases h1 : takeT s 0 with
  | none =>
    rw [h1] at b0
    exact ⟨_, bind_eq (loop_done b0) rfl⟩
  | some x1 =>
    obtain ⟨t1, p1⟩ := x1
    rw [h1] at b0
    have b1 := texts_body s (putA z 0 t1) p1 1 (by omega) (takeT_le h1).1 hs
    simp only
    cases h2 : takeT s p1 with
    | none =>
      rw [h2] at b1
      exact ⟨_, bind_eq (loop_next b0 (loop_done b1)) rfl⟩
    | some x2 =>
      obtain ⟨t2, p2⟩ := x2
      rw [h2] at b1
      have b2 := texts_body s (putA (putA z 0 t1) 1 t2) p2 2 (by omega) (takeT_le h2).1 hs
      simp only
      cases h3 : takeT s p2 with
      | none =>
        rw [h3] at b2
        exact ⟨_, bind_eq (loop_next b0 (loop_next b1 (loop_done b2))) rfl⟩
      | some x3 =>
        obtain ⟨t3, p3⟩ := x3
        rw [h3] at b2
        have b3 := texts_body s (putA (putA (putA z 0 t1) 1 t2) 2 t3) p3 3 (by omega) (takeT_le h3).1 hs
        simp only
        cases h4 : takeT s p3 with
        | none =>
          rw [h4] at b3
          exact ⟨_, bind_eq (loop_next b0 (loop_next b1 (loop_next b2 (loop_done b3)))) rfl⟩
        | some x4 =>
          obtain ⟨t4, p4⟩ := x4
          rw [h4] at b3
          have b4 : ref07_texts_L1 s ((p4 : Int), ((4 : Nat) : Int), putA (putA (putA (putA z 0 t1) 1 t2) 2 t3) 3 t4) = some (.done (.fall ((p4 : Int), putA (putA (putA (putA z 0 t1) 1 t2) 2 t3) 3 t4))) := by
            unfold ref07_texts_L1
            exact cond_f rfl rfl
          exact bind_eq (loop_next b0 (loop_next b1 (loop_next b2 (loop_next b3 (loop_done b4))))) rfl
theorem ref_get_eq (s : Str) (a : Nat) (h : a ≤ s.length) (hs : s.length ≤ 1000000) : ref07_Get s (a : Int) = some (getR s a) := by
  unfold ref07_Get getR
  refine cond_f (by simp only [Bool.or_eq_false_iff, decide_eq_false_iff_not]; omega) ?_
  have e1 : w64 ((s.length : Int) - (a : Int)) = ((s.length - a : Nat) : Int) := by rw [w64_eq ⟨by omega, by omega⟩]; omega
  rw [e1]
  by_cases h2 : s.length < a + 2
  · rw [if_pos h2]
    exact cond_t (by simp only [decide_eq_true_eq]; omega) rfl
  · rw [if_neg h2]
    refine cond_f (by simp only [decide_eq_false_iff_not]; omega) ?_
    have b1 := byteI_lt (s := s) (i := a) (by omega)
    have b2 := byteI_lt (s := s) (i := a + 1) (by omega)
    have hv := two_bytes s a (by omega)
    have hv2 := leV_two s a (by omega)
    generalize s[a]'(by omega) = y1 at b1 hv
    generalize s[a + 1]'(by omega) = y2 at b2 hv
    have g1 := y1.toNat_lt
    have g2 := y2.toNat_lt
    have ea : w64 ((a : Int) + 1) = ((a + 1 : Nat) : Int) := by rw [w64_eq ⟨by omega, by omega⟩]; omega
    have en : w64 (w64 (y1.toNat : Int) + w64 (256 * w64 (y2.toNat : Int))) = (leV (win s a 2) : Int) := by
      rw [w64_eq (n := (y1.toNat : Int)) ⟨by omega, by omega⟩, w64_eq (n := (y2.toNat : Int)) ⟨by omega, by omega⟩, w64_eq (n := 256 * (y2.toNat : Int)) ⟨by omega, by omega⟩, w64_eq ⟨by omega, by omega⟩, hv]
      omega
    refine bind_eq b1 ?_
    rw [ea]
    refine bind_eq b2 ?_
    rw [en]
    have e3 : w64 (((s.length - a : Nat) : Int) - 2) = ((s.length - a - 2 : Nat) : Int) := by rw [w64_eq ⟨by omega, by omega⟩]; omega
    rw [e3]
    by_cases h3 : s.length < a + 2 + leV (win s a 2)
    · rw [if_pos h3]
      exact cond_t (by simp only [decide_eq_true_eq]; omega) rfl
    · rw [if_neg h3]
      refine cond_f (by simp only [decide_eq_false_iff_not]; omega) ?_
      have e4 : w64 ((a : Int) + 2) = ((a + 2 : Nat) : Int) := by rw [w64_eq ⟨by omega, by omega⟩]; omega
      have ex : w64 (((a + 2 : Nat) : Int) + (leV (win s a 2) : Int)) = ((a + 2 + leV (win s a 2) : Nat) : Int) := by rw [w64_eq ⟨by omega, by omega⟩]; omega
      rw [e4]
      refine bind_eq (win_sub s (a + 2) (leV (win s a 2)) (by omega) (by omega)) ?_
      have hwl : (win s (a + 2) (leV (win s a 2))).length = leV (win s a 2) := win_len (by omega)
      rw [ex]
      generalize leV (win s a 2) = n at hwl hv2 h3 ⊢
      generalize win s (a + 2) n = y at hwl ⊢
      by_cases h47 : n < 47
      · rw [if_pos h47]
        exact cond_t (by simp only [decide_eq_true_eq]; omega) rfl
      · rw [if_neg h47]
        refine cond_f (by simp only [decide_eq_false_iff_not]; omega) ?_
        have hsub : subI y 47 (y.length : Int) = some (y.drop 47) := by
          rw [subI_eq (by omega) (by omega) (by omega)]
          simp
        refine bind_eq hsub ?_
        have ht := texts_eq (y.drop 47) (by rw [List.length_drop]; omega)
        rw [take4_shift y 47 (by omega)] at ht
        cases h4 : take4 y 47 with
        | none =>
          rw [h4] at ht
          obtain ⟨arr, ht⟩ := ht
          refine bind_eq ht ?_
          exact cond_t rfl rfl
        | some x =>
          obtain ⟨t1, t2, t3, t4, p⟩ := x
          rw [h4] at ht
          simp only [Option.map_some] at ht
          refine bind_eq ht ?_
          simp only
          have hle := take4_le h4
          by_cases hp : p = n
          · rw [if_pos hp]
            refine cond_f (by rw [Bool.not_eq_false', beq_iff_eq, List.length_drop]; omega) ?_
            have nm : ∀ (q w : Nat), 1 ≤ w → w ≤ 8 → q + w ≤ 47 → ref07_number y (q : Int) (w : Int) = some (numF (win y q w)) := fun q w hw1 hw8 hq => ref_number_eq y q w hw1 hw8 (by omega) (by omega)
            refine bind_eq (nm 6 1 (by omega) (by omega) (by omega)) ?_
            refine bind_eq (nm 7 4 (by omega) (by omega) (by omega)) ?_
            refine bind_eq (nm 11 8 (by omega) (by omega) (by omega)) ?_
            refine bind_eq (nm 0 2 (by omega) (by omega) (by omega)) ?_
            refine bind_eq (nm 2 4 (by omega) (by omega) (by omega)) ?_
            refine bind_eq (nm 19 4 (by omega) (by omega) (by omega)) ?_
            refine bind_eq (nm 23 8 (by omega) (by omega) (by omega)) ?_
            refine bind_eq (nm 31 8 (by omega) (by omega) (by omega)) ?_
            refine bind_eq (nm 39 8 (by omega) (by omega) (by omega)) ?_
            have hB : BIG = 18446744073709551616 := rfl
            refine bind_eq (refcheck_eq (dirF y t1 t2 t3 t4) (by show t1.length ≤ _; omega)) ?_
            by_cases hc : checkR (dirF y t1 t2 t3 t4) = 0
            · rw [if_pos hc]
              exact cond_f (by simp [hc]) rfl
            · rw [if_neg hc]
              exact cond_t (by simp [hc]) rfl
          · rw [if_neg hp]
            refine cond_t ?_ rfl
            rw [Bool.not_eq_true', beq_eq_false_iff_ne, List.length_drop]
            omega
end Go.Proofs.YtboplmpnjepdnaaGreat

/-
  Plain laws: the reference's reader beside the other one: numbers, texts, errors, bytes, descriptions. No program in sight.
-/
namespace Go.Proofs.YtboplmpnjepdnaaGreat
open Go.Rt Go.RowKit

/-! ### Numbers -/
theorem leV_drop : ∀ (n : Nat) (s : Str), leV (s.drop n) ≤ leV s
  | 0, _ => Nat.le_refl _
  | _ + 1, [] => Nat.le_refl _
  | n + 1, b :: s => by
    have := leV_drop n s
    simp only [List.drop_succ_cons, leV]
    omega
theorem r02_loop (s : Str) (b w : Nat) (h1 : 1 ≤ w) (h8 : w ≤ 8) (h : b + w ≤ s.length) (hs : s.length ≤ 9223372036854775807) : ∀ (k fuel : Nat), k ≤ w → k < fuel → leV ((win s b w).drop k) ≤ 9223372036854775807 →
    loopF (ref02_Get_L1 s (b : Int)) fuel (((leV ((win s b w).drop k) : Nat) : Int), (k : Int) - 1) = some (if leV (win s b w) > 9223372036854775807 then .ret (0, 0, 5) else .fall (leV (win s b w) : Int))
  | 0, fuel + 1, _, _, hv => by
    rw [List.drop_zero] at hv ⊢
    rw [if_neg (by omega)]
    refine loop_done ?_
    unfold ref02_Get_L1
    exact cond_f (by simp) rfl
  | k + 1, fuel + 1, hk, hf, hv => by
    have hlt := leV_lt ((win s b w).drop (k + 1))
    have hd := win_drop (s := s) (at_ := b) (w := w) (j := w - (k + 1)) (by omega) (by omega)
    rw [show w - (w - (k + 1) + 1) = k by omega, show w - (w - (k + 1)) = k + 1 by omega] at hd
    have hby := byteI_lt (s := s) (i := b + (w - 1 - (w - (k + 1)))) (by omega)
    generalize s[b + (w - 1 - (w - (k + 1)))]'(by omega) = c at hd hby
    have hc := c.toNat_lt
    have hle := leV_drop k (win s b w)
    rw [hd] at hle
    simp only [leV] at hle
    have hpos : decide ((((k + 1 : Nat) : Int) - 1) ≥ 0) = true := by simp only [decide_eq_true_eq]; omega
    by_cases h55 : leV ((win s b w).drop (k + 1)) ≥ 36028797018963968
    · rw [if_pos (by omega)]
      refine loop_done ?_
      unfold ref02_Get_L1
      refine cond_t hpos (cond_t ?_ rfl)
      simp only [decide_eq_true_eq]
      omega
    · have ih := r02_loop s b w h1 h8 h hs k fuel (by omega) (by omega) (by rw [hd]; simp only [leV]; omega)
      refine loop_next ?_ ih
      unfold ref02_Get_L1
      refine cond_t hpos (cond_f ?_ ?_)
      · simp only [decide_eq_false_iff_not]
        omega
      · have e1 : w64 ((b : Int) + (((k + 1 : Nat) : Int) - 1)) = ((b + (w - 1 - (w - (k + 1))) : Nat) : Int) := by
          rw [w64_eq ⟨by omega, by omega⟩]; omega
        show Option.bind (byteI s (w64 ((b : Int) + (((k + 1 : Nat) : Int) - 1)))) _ = _
        rw [e1]
        refine bind_eq hby ?_
        rw [hd]
        simp only [leV]
        generalize leV ((win s b w).drop (k + 1)) = v at *
        rw [w64_eq (n := 256 * (v : Int)) ⟨by omega, by omega⟩, w64_eq (n := (c.toNat : Int)) ⟨by omega, by omega⟩, w64_eq (n := 256 * (v : Int) + (c.toNat : Int)) ⟨by omega, by omega⟩, w64_eq (n := ((k + 1 : Nat) : Int) - 1 - 1) ⟨by omega, by omega⟩]
        congr 3
        · omega
        · omega
theorem r02_at (s : Str) (b w : Nat) (h1 : 1 ≤ w) (h8 : w ≤ 8) (h : b ≤ s.length) (hs : s.length ≤ 9223372036854775807) :
    ref02_Get s (b : Int) (w : Int) = some (if s.length - b < w then (0, 0, 3) else if leV (win s b w) > 9223372036854775807 then (0, 0, 5) else ((leV (win s b w) : Int), ((b + w : Nat) : Int), 0)) := by
  unfold ref02_Get
  refine bind_eq (a := true) ?_ ?_
  · unfold ref02_valid
    simp; omega
  refine cond_f (by simp; omega) ?_
  by_cases hlt : s.length - b < w
  · rw [if_pos hlt]
    refine cond_t ?_ rfl
    rw [w64_eq ⟨by omega, by omega⟩]
    simp; omega
  · rw [if_neg hlt]
    refine cond_f ?_ ?_
    · rw [w64_eq ⟨by omega, by omega⟩]
      simp; omega
    have e : (win s b w).drop w = [] := List.drop_eq_nil_of_le (by rw [win_len (by omega)]; omega)
    have hl := r02_loop s b w h1 h8 (by omega) hs w BIG (Nat.le_refl _) (by show w < 18446744073709551616; omega) (by rw [e]; simp [leV])
    rw [e] at hl
    rw [w64_eq (n := (w : Int) - 1) ⟨by omega, by omega⟩]
    refine bind_eq hl ?_
    by_cases hv : leV (win s b w) > 9223372036854775807
    · rw [if_pos hv, if_pos hv]
    · rw [if_neg hv, if_neg hv]
      show some ((leV (win s b w) : Int), w64 ((b : Int) + (w : Int)), (0 : Int)) = _
      rw [w64_eq (n := (b : Int) + (w : Int)) ⟨by omega, by omega⟩]
      rfl
theorem r02_get (s : Str) (w : Nat) (h1 : 1 ≤ w) (h8 : w ≤ 8) (hs : s.length ≤ 9223372036854775807) :
    ref02_Get s 0 (w : Int) = some (if s.length < w then (0, 0, 3) else if leV (win s 0 w) > 9223372036854775807 then (0, 0, 5) else ((leV (win s 0 w) : Int), (w : Int), 0)) := by
  have := r02_at s 0 w h1 h8 (by omega) hs
  rwa [Nat.zero_add, Nat.sub_zero] at this
theorem subI_tail {α : Type} (s : List α) (a : Nat) (h : a ≤ s.length) : subI s (a : Int) (s.length : Int) = some (s.drop a) := by
  rw [subI_eq (by omega) (by omega) (by omega)]
  simp
/-- Both readers stand at the same place, or both have failed. -/
def Sim (y : Str) (r : wire_reader) (q : ref09_In) : Prop := (∃ a : Nat, a ≤ y.length ∧ r = ⟨y, (a : Int), true⟩ ∧ q = ⟨y.drop a, false⟩) ∨ (∃ a S, r = ⟨y, a, false⟩ ∧ q = ⟨S, true⟩ ∧ S.length ≤ y.length)
/-- Two readings of one thing. -/
def Two {α : Type} (y : Str) (r0 : wire_reader) (x : Option (α × wire_reader)) (z : Option (ref09_In × α)) : Prop := ∃ v r v' q, x = some (v, r) ∧ z = some (q, v') ∧ Sim y r q ∧ (r.ok_ = true → r0.ok_ = true ∧ v = v')
theorem bad_len {y : Str} : ([] : Str).length ≤ y.length := by simp
theorem snum {y : Str} {r : wire_reader} {q : ref09_In} {n : Nat} (h1 : 1 ≤ n) (h8 : n ≤ 8) (hs : y.length ≤ 1000000) (h : Sim y r q) :
    (∃ a, a + n ≤ y.length ∧ (r.ok_ = true ∧ leV (win y a n) ≤ 9223372036854775807) ∧ wire_reader_number r (n : Int) = some ((leV (win y a n) : Int), ⟨y, ((a + n : Nat) : Int), true⟩) ∧ ref09_number q (n : Int) = some (⟨y.drop (a + n), false⟩, (leV (win y a n) : Int))) ∨
    (∃ v a, wire_reader_number r (n : Int) = some (v, ⟨y, a, false⟩) ∧ ref09_number q (n : Int) = some (⟨[], true⟩, 0)) := by
  rcases h with ⟨a, ha, rfl, rfl⟩ | ⟨a, S, rfl, rfl, hS⟩
  · have hg := get_eq y a n h1 h8 ha (by omega)
    have hr := r02_get (y.drop a) n h1 h8 (by rw [List.length_drop]; omega)
    rw [win_shift, Nat.add_zero, List.length_drop] at hr
    by_cases hlt : y.length - a < n
    · rw [if_pos hlt] at hg hr
      refine .inr ⟨0, (a : Int), ?_, ?_⟩
      · unfold wire_reader_number
        exact cond_f rfl (bind_eq hg (cond_t rfl rfl))
      · unfold ref09_number
        exact bind_eq hr (cond_t rfl rfl)
    · rw [if_neg hlt] at hg hr
      by_cases hv : leV (win y a n) > 9223372036854775807
      · rw [if_pos hv] at hg hr
        refine .inr ⟨0, (a : Int), ?_, ?_⟩
        · unfold wire_reader_number
          exact cond_f rfl (bind_eq hg (cond_t rfl rfl))
        · unfold ref09_number
          exact bind_eq hr (cond_t rfl rfl)
      · rw [if_neg hv] at hg hr
        refine .inl ⟨a, by omega, ⟨rfl, by omega⟩, ?_, ?_⟩
        · unfold wire_reader_number
          exact cond_f rfl (bind_eq hg (cond_f rfl rfl))
        · unfold ref09_number
          refine bind_eq hr (cond_f rfl ?_)
          refine bind_eq (subI_tail _ n (by rw [List.length_drop]; omega)) ?_
          rw [List.drop_drop]
  · refine .inr ⟨0, a, ?_, ?_⟩
    · unfold wire_reader_number
      exact cond_t rfl rfl
    · have hr := r02_get S n h1 h8 (by omega)
      unfold ref09_number
      exact bind_eq hr (cond_t rfl rfl)
theorem tnum {y : Str} {r : wire_reader} {q : ref09_In} {n : Nat} (h1 : 1 ≤ n) (h8 : n ≤ 8) (hs : y.length ≤ 1000000) (h : Sim y r q) : Two y r (wire_reader_number r (n : Int)) (ref09_number q (n : Int)) := by
  rcases snum h1 h8 hs h with ⟨a, ha, ⟨ho, _⟩, e1, e2⟩ | ⟨v, a, e1, e2⟩
  · exact ⟨_, _, _, _, e1, e2, .inl ⟨a + n, ha, rfl, rfl⟩, fun _ => ⟨ho, rfl⟩⟩
  · exact ⟨_, _, _, _, e1, e2, .inr ⟨a, [], rfl, rfl, bad_len⟩, fun e => nomatch e⟩
theorem num_in {y : Str} {r r' : wire_reader} {q : ref09_In} {n : Nat} {v : Int} (h1 : 1 ≤ n) (h8 : n ≤ 8) (hs : y.length ≤ 1000000) (h : Sim y r q) (e : wire_reader_number r (n : Int) = some (v, r')) (ho : r'.ok_ = true) : InK .i64 v := by
  rcases snum h1 h8 hs h with ⟨a, ha, ⟨_, hv⟩, e1, _⟩ | ⟨v, a, e1, _⟩
  · obtain ⟨rfl, rfl⟩ := Prod.mk.inj (Option.some.inj (e1.symm.trans e))
    exact (show -9223372036854775808 ≤ (leV (win y a n) : Int) ∧ (leV (win y a n) : Int) ≤ 9223372036854775807 from ⟨by omega, by omega⟩)
  · obtain ⟨rfl, rfl⟩ := Prod.mk.inj (Option.some.inj (e1.symm.trans e))
    cases ho

/-! ### Texts -/
theorem r02_text (s : Str) (hs : s.length ≤ 1000000) : ref02_GetText s 0 = some (match takeT s 0 with | none => ([], 0, 3) | some (t, p) => (t, (p : Int), 0)) := by
  unfold ref02_GetText
  have hg := r02_get s 2 (by omega) (by omega) (by omega)
  rw [show ((2 : Nat) : Int) = 2 from rfl] at hg
  unfold takeT
  by_cases h2 : s.length < 0 + 2
  · rw [if_pos (by omega)] at hg
    rw [if_pos h2]
    refine bind_eq hg ?_
    exact cond_t rfl rfl
  · have hv := leV_two s 0 (by omega)
    rw [if_neg (by omega), if_neg (by omega)] at hg
    rw [if_neg h2]
    refine bind_eq hg ?_
    refine cond_f rfl ?_
    have ew : w64 ((s.length : Int) - 2) = ((s.length - 2 : Nat) : Int) := by rw [w64_eq ⟨by omega, by omega⟩]; omega
    have ex : w64 (2 + (leV (win s 0 2) : Int)) = ((0 + 2 + leV (win s 0 2) : Nat) : Int) := by rw [w64_eq ⟨by omega, by omega⟩]; omega
    by_cases h3 : s.length < 0 + 2 + leV (win s 0 2)
    · rw [if_pos h3]
      refine cond_t ?_ rfl
      show decide (w64 ((s.length : Int) - 2) < (leV (win s 0 2) : Int)) = true
      rw [ew]; simp only [decide_eq_true_eq]; omega
    · rw [if_neg h3]
      refine cond_f ?_ ?_
      · show decide (w64 ((s.length : Int) - 2) < (leV (win s 0 2) : Int)) = false
        rw [ew]; simp only [decide_eq_false_iff_not]; omega
      have hw := win_sub s (0 + 2) (leV (win s 0 2)) (by omega) (by omega)
      rw [show ((0 + 2 : Nat) : Int) = 2 from rfl] at hw
      refine bind_eq hw ?_
      show some (_, w64 (2 + (leV (win s 0 2) : Int)), (0 : Int)) = _
      rw [ex]
theorem ttext {y : Str} {r : wire_reader} {q : ref09_In} (hs : y.length ≤ 1000000) (h : Sim y r q) : Two y r (wire_reader_text r) (ref09_counted q) := by
  rcases h with ⟨a, ha, rfl, rfl⟩ | ⟨a, S, rfl, rfl, hS⟩
  · have hg := gettext_eq y a ha hs
    have hr := r02_text (y.drop a) (by rw [List.length_drop]; omega)
    rw [takeT_shift y a 0 ha, Nat.add_zero] at hr
    cases ht : takeT y a with
    | none =>
      rw [ht] at hg hr
      refine ⟨[], ⟨y, (a : Int), false⟩, [], ⟨[], true⟩, ?_, ?_, .inr ⟨(a : Int), [], rfl, rfl, bad_len⟩, fun e => nomatch e⟩
      · unfold wire_reader_text
        exact cond_f rfl (bind_eq hg (cond_t rfl rfl))
      · unfold ref09_counted
        exact bind_eq hr (cond_t rfl rfl)
    | some x =>
      obtain ⟨t, p⟩ := x
      rw [ht] at hg hr
      have hle := takeT_le ht
      refine ⟨t, ⟨y, (p : Int), true⟩, t, ⟨y.drop p, false⟩, ?_, ?_, .inl ⟨p, hle.1, rfl, rfl⟩, fun _ => ⟨rfl, rfl⟩⟩
      · unfold wire_reader_text
        exact cond_f rfl (bind_eq hg (cond_f rfl rfl))
      · unfold ref09_counted
        refine bind_eq hr (cond_f rfl ?_)
        refine bind_eq (subI_tail (y.drop a) (p - a) (by rw [List.length_drop]; omega)) ?_
        rw [List.drop_drop, show a + (p - a) = p by omega]
        rfl
  · refine ⟨[], ⟨y, a, false⟩, [], ⟨[], true⟩, ?_, ?_, .inr ⟨a, [], rfl, rfl, bad_len⟩, fun e => nomatch e⟩
    · unfold wire_reader_text
      exact cond_t rfl rfl
    · have hr := r02_text S (by omega)
      unfold ref09_counted
      exact bind_eq hr (cond_t rfl rfl)
theorem tqid {y : Str} {r : wire_reader} {q : ref09_In} (hs : y.length ≤ 1000000) (h : Sim y r q) : Two y r (wire_reader_qid r) (ref09_getQid q) := by
  obtain ⟨v1, r1, u1, q1, a1, b1, s1, e1⟩ := tnum (n := 1) (by omega) (by omega) hs h
  obtain ⟨v2, r2, u2, q2, a2, b2, s2, e2⟩ := tnum (n := 4) (by omega) (by omega) hs s1
  obtain ⟨v3, r3, u3, q3, a3, b3, s3, e3⟩ := tnum (n := 8) (by omega) (by omega) hs s2
  refine ⟨⟨v1, v2, v3⟩, r3, ⟨u1, u2, u3⟩, q3, ?_, ?_, s3, fun ho => ?_⟩
  · unfold wire_reader_qid
    exact bind_eq a1 (bind_eq a2 (bind_eq a3 rfl))
  · unfold ref09_getQid
    exact bind_eq b1 (bind_eq b2 (bind_eq b3 rfl))
  · obtain ⟨o2, rfl⟩ := e3 ho
    obtain ⟨o1, rfl⟩ := e2 o2
    obtain ⟨o0, rfl⟩ := e1 o1
    exact ⟨o0, rfl⟩
theorem bind_split {α β : Type} {x : Option α} {f : α → Option β} {b : β} (h : Option.bind x f = some b) : ∃ a, x = some a ∧ f a = some b := by
  cases x with
  | none => cases h
  | some a => exact ⟨a, rfl, h⟩
theorem qid_in {y : Str} {r r' : wire_reader} {q : ref09_In} {v : api_Qid} (hs : y.length ≤ 1000000) (h : Sim y r q) (e : wire_reader_qid r = some (v, r')) (ho : r'.ok_ = true) : v.ok := by
  obtain ⟨v1, r1, u1, q1, a1, b1, s1, e1⟩ := tnum (n := 1) (by omega) (by omega) hs h
  obtain ⟨v2, r2, u2, q2, a2, b2, s2, e2⟩ := tnum (n := 4) (by omega) (by omega) hs s1
  obtain ⟨v3, r3, u3, q3, a3, b3, s3, e3⟩ := tnum (n := 8) (by omega) (by omega) hs s2
  have he : wire_reader_qid r = some (⟨v1, v2, v3⟩, r3) := by
    unfold wire_reader_qid
    exact bind_eq a1 (bind_eq a2 (bind_eq a3 rfl))
  obtain ⟨rfl, rfl⟩ := Prod.mk.inj (Option.some.inj (he.symm.trans e))
  have o2 := (e3 ho).1
  have o1 := (e2 o2).1
  exact ⟨num_in (n := 1) (by omega) (by omega) hs h a1 o1, num_in (n := 4) (by omega) (by omega) hs s1 a2 o2, num_in (n := 8) (by omega) (by omega) hs s2 a3 ho⟩

/-! ### Errors -/
def textsR : List Str := (ref04_texts).getD []
theorem texts_some : ref04_texts = some textsR := rfl
theorem texts_all : (List.range 60).all (fun n => n == 0 || (decide (getI textsR (n : Int) = some (faultT (n : Int))) && (faultT (n : Int) != []))) = true := by kernel_rfl
theorem texts_at {n : Nat} (h1 : 1 ≤ n) (h2 : n ≤ 59) : getI textsR (n : Int) = some (faultT (n : Int)) ∧ (faultT (n : Int) == []) = false := by
  have := List.all_eq_true.1 texts_all n (List.mem_range.2 (by omega))
  simp only [Bool.or_eq_true, Bool.and_eq_true, decide_eq_true_eq, beq_iff_eq] at this
  rcases this with h | ⟨h, h'⟩
  · omega
  · exact ⟨h, by simpa using h'⟩
theorem textsR_len : (textsR.length : Int) = 60 := by kernel_rfl
theorem find_loops (x : Str) : ∀ (k fuel i : Nat), 1 ≤ i → i + k = 60 → k < fuel → ∃ o, (x ≠ [] → loopF (fault_Find_L1 x) fuel (i : Int) = some o) ∧ loopF (ref04_Find_L1 x) fuel ((i : Int), textsR) = some o ∧ (x = [] → o = .fall ())
  | 0, fuel + 1, i, _, hi, _ => by
    refine ⟨.fall (), fun _ => loop_done ?_, loop_done ?_, fun _ => rfl⟩
    · unfold fault_Find_L1
      exact cond_f (by simp; omega) rfl
    · unfold ref04_Find_L1
      refine cond_f ?_ rfl
      show decide ((i : Int) < (textsR.length : Int)) = false
      rw [textsR_len]; simp; omega
  | k + 1, fuel + 1, i, h1, hi, hk => by
    have hc : decide ((i : Int) ≤ 59) = true := by simp; omega
    have hc2 : decide ((i : Int) < (textsR.length : Int)) = true := by rw [textsR_len]; simp; omega
    obtain ⟨ht, hne⟩ := texts_at (n := i) h1 (by omega)
    cases hx : (faultT (i : Int) == x) with
    | true =>
      refine ⟨.ret ((i : Int), true), fun _ => loop_done ?_, loop_done ?_, fun e => ?_⟩
      · unfold fault_Find_L1
        refine cond_t hc (bind_eq (fault_text _) ?_)
        exact cond_t hx rfl
      · unfold ref04_Find_L1
        refine cond_t hc2 (bind_eq ht ?_)
        exact cond_t hx rfl
      · rw [e] at hx; rw [hne] at hx; cases hx
    | false =>
      obtain ⟨o, h2, h3, h4⟩ := find_loops x k fuel (i + 1) (by omega) (by omega) (by omega)
      have ew : w64 ((i : Int) + 1) = ((i + 1 : Nat) : Int) := by rw [w64_eq ⟨by omega, by omega⟩]; rfl
      refine ⟨o, fun e => loop_next ?_ (h2 e), loop_next ?_ h3, h4⟩
      · unfold fault_Find_L1
        refine cond_t hc (bind_eq (fault_text _) ?_)
        refine cond_f hx ?_
        rw [ew]
      · unfold ref04_Find_L1
        refine cond_t hc2 (bind_eq ht ?_)
        refine cond_f hx ?_
        show some (Step.next (w64 ((i : Int) + 1), textsR)) = _
        rw [ew]
theorem find_both (x : Str) : ∃ y, fault_Find x = some y ∧ ref04_Find x = some y := by
  obtain ⟨o, h1, h2, h3⟩ := find_loops x 59 BIG 1 (by omega) rfl (by show (59 : Nat) < 18446744073709551616; omega)
  rw [show ((1 : Nat) : Int) = 1 from rfl] at h1 h2
  by_cases hx : x = []
  · obtain rfl := h3 hx
    refine ⟨(0, false), ?_, ?_⟩
    · unfold fault_Find
      exact cond_t (by simp [hx]) rfl
    · unfold ref04_Find
      exact bind_eq texts_some (bind_eq h2 rfl)
  · cases o with
    | ret z =>
      refine ⟨z, ?_, ?_⟩
      · unfold fault_Find
        exact cond_f (by simp [hx]) (bind_eq (h1 hx) rfl)
      · unfold ref04_Find
        exact bind_eq texts_some (bind_eq h2 rfl)
    | fall u =>
      refine ⟨(0, false), ?_, ?_⟩
      · unfold fault_Find
        exact cond_f (by simp [hx]) (bind_eq (h1 hx) rfl)
      · unfold ref04_Find
        exact bind_eq texts_some (bind_eq h2 rfl)

theorem tfault {y : Str} {r : wire_reader} {q : ref09_In} (hs : y.length ≤ 1000000) (h : Sim y r q) : Two y r (wire_reader_fault r) (Option.bind (ref09_counted q) fun x => Option.bind (ref04_Find x.2) fun z => some ((ref09_In.mk x.1.S_ (x.1.Bad_ || (!z.2))), z.1)) := by
  obtain ⟨v1, r1, u1, q1, a1, b1, s1, e1⟩ := ttext hs h
  obtain ⟨⟨n, f⟩, f1, f2⟩ := find_both v1
  obtain ⟨⟨n', f'⟩, _, g2⟩ := find_both u1
  refine ⟨n, ⟨r1.s_, r1.at_, r1.ok_ && f⟩, n', ⟨q1.S_, q1.Bad_ || !f'⟩, ?_, ?_, ?_, fun ho => ?_⟩
  · unfold wire_reader_fault
    exact bind_eq a1 (bind_eq f1 rfl)
  · exact bind_eq b1 (bind_eq g2 rfl)
  · rcases s1 with ⟨a, ha, rfl, rfl⟩ | ⟨a, S, rfl, rfl, hS⟩
    · obtain ⟨_, rfl⟩ := e1 rfl
      rw [f2] at g2
      obtain ⟨rfl, rfl⟩ := Prod.mk.inj (Option.some.inj g2)
      cases f with
      | true => exact .inl ⟨a, ha, rfl, rfl⟩
      | false => exact .inr ⟨(a : Int), y.drop a, rfl, rfl, by rw [List.length_drop]; omega⟩
    · exact .inr ⟨a, S, rfl, rfl, hS⟩
  · simp only [Bool.and_eq_true] at ho
    obtain ⟨o0, rfl⟩ := e1 ho.1
    rw [f2] at g2
    exact ⟨o0, (Prod.mk.inj (Option.some.inj g2)).1⟩

/-! ### Bytes and descriptions -/
theorem data_bad (y : Str) (a w : Int) : ∃ v, wire_reader_data ⟨y, a, false⟩ w = some (v, ⟨y, a, false⟩) := rdata_no y a w
theorem raw_bad (S : Str) (v : Int) : ref09_raw ⟨S, true⟩ v = some (⟨[], true⟩, []) := by
  unfold ref09_raw
  exact cond_t rfl rfl
/-- The bytes behind their number. -/
theorem sdata {y : Str} {r : wire_reader} {q : ref09_In} {n : Nat} (h1 : 1 ≤ n) (h8 : n ≤ 8) (hs : y.length ≤ 1000000) (h : Sim y r q) :
    ∃ (q0 : ref09_In) (v0 : Int), ref09_number q (n : Int) = some (q0, v0) ∧
      ((∃ (t : Str) (p : Nat), r.ok_ = true ∧ p ≤ y.length ∧ t.length ≤ y.length ∧ v0 = (t.length : Int) ∧ wire_reader_data r (n : Int) = some (t, ⟨y, (p : Int), true⟩) ∧ ref09_raw q0 v0 = some (⟨y.drop p, false⟩, t)) ∨
       (∃ (v : Str) (a : Int), wire_reader_data r (n : Int) = some (v, ⟨y, a, false⟩) ∧ ref09_raw q0 v0 = some (⟨[], true⟩, []))) := by
  rcases snum h1 h8 hs h with ⟨a, ha, ⟨ho, _⟩, e1, e2⟩ | ⟨v, a, e1, e2⟩
  · refine ⟨_, _, e2, ?_⟩
    have hld : (y.drop (a + n)).length = y.length - (a + n) := List.length_drop
    have ew : w64 ((y.length : Int) - ((a + n : Nat) : Int)) = ((y.length - (a + n) : Nat) : Int) := by rw [w64_eq ⟨by omega, by omega⟩]; omega
    generalize hv : leV (win y a n) = v at e1 e2
    by_cases hb : v > y.length - (a + n)
    · refine .inr ⟨[], ((a + n : Nat) : Int), ?_, ?_⟩
      · unfold wire_reader_data
        refine bind_eq e1 (cond_t ?_ rfl)
        show (!true || decide ((v : Int) > w64 ((y.length : Int) - ((a + n : Nat) : Int)))) = true
        rw [ew]; simp; omega
      · unfold ref09_raw
        refine cond_t ?_ rfl
        show (false || decide ((v : Int) > ((y.drop (a + n)).length : Int))) = true
        rw [hld]; simp; omega
    · have hwl : (win y (a + n) v).length = v := win_len (by omega)
      refine .inl ⟨win y (a + n) v, a + n + v, ho, by omega, by omega, by rw [hwl], ?_, ?_⟩
      · unfold wire_reader_data
        refine bind_eq e1 (cond_f ?_ ?_)
        · show (!true || decide ((v : Int) > w64 ((y.length : Int) - ((a + n : Nat) : Int)))) = false
          rw [ew]; simp; omega
        · have ex : w64 (((a + n : Nat) : Int) + (v : Int)) = ((a + n + v : Nat) : Int) := by rw [w64_eq ⟨by omega, by omega⟩]; omega
          show Option.bind (subI y (w64 (w64 (((a + n : Nat) : Int) + (v : Int)) - (v : Int))) (w64 (((a + n : Nat) : Int) + (v : Int)))) (fun y2 => some (y2, (⟨y, w64 (((a + n : Nat) : Int) + (v : Int)), true⟩ : wire_reader))) = _
          have hsub := win_sub y (a + n) v (by omega) (by omega)
          have e3 : w64 (((a + n + v : Nat) : Int) - (v : Int)) = ((a + n : Nat) : Int) := by rw [w64_eq ⟨by omega, by omega⟩]; omega
          rw [ex] at hsub ⊢
          rw [e3]
          exact bind_eq hsub rfl
      · unfold ref09_raw
        refine cond_f ?_ ?_
        · show (false || decide ((v : Int) > ((y.drop (a + n)).length : Int))) = false
          rw [hld]; simp; omega
        · refine bind_eq (subI_tail (y.drop (a + n)) v (by omega)) ?_
          have hsub : subI (y.drop (a + n)) 0 (v : Int) = some (win y (a + n) v) := by
            rw [subI_eq (by omega) (by omega) (by omega)]
            simp [win]
          refine bind_eq hsub ?_
          rw [List.drop_drop]
  · refine ⟨_, _, e2, .inr ?_⟩
    have hd : wire_reader_data r (n : Int) = some ([], ⟨y, a, false⟩) := by
      unfold wire_reader_data
      exact bind_eq e1 (cond_t rfl rfl)
    exact ⟨_, _, hd, raw_bad _ _⟩
theorem tdata {y : Str} {r : wire_reader} {q : ref09_In} {n : Nat} (h1 : 1 ≤ n) (h8 : n ≤ 8) (hs : y.length ≤ 1000000) (h : Sim y r q) : Two y r (wire_reader_data r (n : Int)) (Option.bind (ref09_number q (n : Int)) fun x => ref09_raw x.1 x.2) := by
  obtain ⟨q0, v0, e0, ⟨t, p, ho, hp, _, _, e1, e2⟩ | ⟨v, a, e1, e2⟩⟩ := sdata h1 h8 hs h
  · exact ⟨_, _, _, _, e1, bind_eq e0 e2, .inl ⟨p, hp, rfl, rfl⟩, fun _ => ⟨ho, rfl⟩⟩
  · exact ⟨_, _, _, _, e1, bind_eq e0 e2, .inr ⟨a, [], rfl, rfl, bad_len⟩, fun e => nomatch e⟩
theorem tstat {y : Str} {r : wire_reader} {q : ref09_In} (hs : y.length ≤ 1000000) (h : Sim y r q) : Two y r (wire_reader_stat r) (Option.bind (ref09_number q 2) fun x => Option.bind (ref09_raw x.1 x.2) fun z => Option.bind (ref07_Get z.2 0) fun d => some ((ref09_In.mk z.1.S_ ((z.1.Bad_ || (d.2.2 != 0)) || (d.2.1 != x.2))), d.1)) := by
  obtain ⟨q0, v0, e0, ⟨t, p, ho, hp, htl, hv, e1, e2⟩ | ⟨v, a, e1, e2⟩⟩ := sdata (n := 2) (by omega) (by omega) hs h
  · have hw := stat_get_eq t 0 (by omega) (by omega)
    have hr := ref_get_eq t 0 (by omega) (by omega)
    rw [show ((0 : Nat) : Int) = 0 from rfl] at hw hr
    generalize getR t 0 = g at hw hr
    obtain ⟨d, n, e⟩ := g
    refine ⟨d, ⟨y, (p : Int), (e == 0) && (n == (t.length : Int))⟩, d, ⟨y.drop p, (false || (e != 0)) || (n != v0)⟩, ?_, ?_, ?_, fun _ => ⟨ho, rfl⟩⟩
    · unfold wire_reader_stat
      refine bind_eq e1 (cond_f rfl ?_)
      exact bind_eq hw rfl
    · refine bind_eq e0 (bind_eq e2 ?_)
      exact bind_eq hr rfl
    · rw [hv]
      by_cases hok : e = 0 ∧ n = (t.length : Int)
      · left
        refine ⟨p, hp, ?_, ?_⟩
        · simp [hok.1, hok.2]
        · simp [hok.1, hok.2]
      · right
        refine ⟨(p : Int), y.drop p, ?_, ?_, by rw [List.length_drop]; omega⟩
        · congr 1
          rw [Bool.eq_false_iff]
          intro hc
          simp only [Bool.and_eq_true, beq_iff_eq] at hc
          exact hok hc
        · congr 1
          rw [Bool.eq_iff_iff]
          simp only [Bool.false_or, Bool.or_eq_true, bne_iff_ne, ne_eq, iff_true]
          by_cases he : e = 0
          · exact .inr fun hn => hok ⟨he, hn⟩
          · exact .inl he
  · have hr := ref_get_eq [] 0 (by simp) (by simp)
    rw [show ((0 : Nat) : Int) = 0 from rfl] at hr
    have x1 : wire_reader_stat r = some (zeroDir, ⟨y, a, false⟩) := by
      unfold wire_reader_stat
      exact bind_eq e1 (cond_t rfl rfl)
    exact ⟨_, _, _, _, x1, bind_eq e0 (bind_eq e2 (bind_eq hr rfl)), .inr ⟨a, [], rfl, rfl, bad_len⟩, fun e => nomatch e⟩
end Go.Proofs.YtboplmpnjepdnaaGreat

/-
  Plain laws: the reference's reading of fields beside the other one: printed by a program of ours (qzf.py). No program in sight.
-/
namespace Go.Proofs.YtboplmpnjepdnaaGreat
open Go.Rt Go.RowKit

abbrev StT : Type := Int × ref09_In × Int × Int × Int × Int × Int × Int × Int × Str × Str × Str × Int × Int × Int × Int × Int × Int × Str × Int × Int × Str × Int × Int × Int × Int × Int × Int × Int × Int × Int × Str × Str × Str × Str × Int × Int × Int × Str × (List Str) × (List api_Qid)
abbrev DnT : Type := ref09_In × Int × Int × Int × Int × Int × Int × Int × Str × Str × Str × Int × Int × Int × Int × Int × Int × Str × Int × Int × Str × Int × Int × Int × Int × Int × Int × Int × Int × Int × Str × Str × Str × Str × Int × Int × Int × Str × (List Str) × (List api_Qid)
def dn (q : ref09_In) (m : api_Msg) : DnT := (q, m.Kind_, m.Tag_, m.Fid_, m.NewFid_, m.AuthFid_, m.OldTag_, m.Msize_, m.Version_, m.User_, m.Attach_, m.Qid_.Type_, m.Qid_.Vers_, m.Qid_.Path_, m.Iounit_, m.Mode_, m.Perm_, m.Name_, m.Offset_, m.Count_, m.Data_, m.Stat_.Type_, m.Stat_.Dev_, m.Stat_.Qid_.Type_, m.Stat_.Qid_.Vers_, m.Stat_.Qid_.Path_, m.Stat_.Mode_, m.Stat_.Atime_, m.Stat_.Mtime_, m.Stat_.Length_, m.Stat_.Name_, m.Stat_.Uid_, m.Stat_.Gid_, m.Stat_.Muid_, m.Err_, m.Lease_, m.Term_, m.Session_, m.Names_, m.Qids_)
def st (i : Int) (q : ref09_In) (m : api_Msg) : StT := (i, dn q m)

theorem nd_names {y3 : ref09_In × Int} {i : Int} {q : ref09_In} {m : api_Msg} (h : (decide (i < y3.2) && !q.Bad_) = false) : ref09_readList_L1 y3 (st i q m) = some (.done (dn q m)) := by
  unfold ref09_readList_L1
  exact cond_f h rfl
theorem nx_names {y3 : ref09_In × Int} {i : Int} {q q1 : ref09_In} {m : api_Msg} {u : Str} {l : List Str} (h : (decide (i < y3.2) && !q.Bad_) = true) (hu : ref09_counted q = some (q1, u)) (hr : room 16 m.Names_ [u] = some l) : ref09_readList_L1 y3 (st i q m) = some (.next (st (w64 (i + 1)) q1 { m with Names_ := l })) := by
  unfold ref09_readList_L1
  exact cond_t h (bind_eq hu (bind_eq hr rfl))
theorem tw_names_loop (y : Str) (hs : y.length ≤ 1000000) (y3 : ref09_In × Int) (k : Nat) : ∀ (fuel i : Nat) (r : wire_reader) (q : ref09_In) (acc : List Str) (m : api_Msg), Sim y r q → y3.2 = ((i + k : Nat) : Int) → i + k ≤ 65535 → k < fuel → acc.length + k ≤ 65535 → (r.ok_ = true → m.Names_ = acc) →
    ∃ l r' q' m2, loopF wire_reader_names_L1 fuel ((k : Int), r, acc) = some (l, r') ∧ loopF (ref09_readList_L1 y3) fuel (st (i : Int) q m) = some (dn q' m2) ∧ Sim y r' q' ∧ (r'.ok_ = true → r.ok_ = true ∧ m2 = { m with Names_ := l }) ∧ (r'.ok_ = true → (∀ x ∈ acc, True) → ∀ x ∈ l, True) := by
  induction k with
  | zero =>
    intro fuel i r q acc m hS hn hi hf hl hm
    obtain ⟨fuel, rfl⟩ : ∃ f, fuel = f + 1 := ⟨fuel - 1, by omega⟩
    refine ⟨acc, r, q, m, loop_done ?_, loop_done (nd_names ?_), hS, fun ho => ⟨ho, ?_⟩, fun _ h => h⟩
    · unfold wire_reader_names_L1
      exact cond_f (by simp) rfl
    · rw [hn]
      simp
    · rw [← hm ho]
  | succ k ih =>
    intro fuel i r q acc m hS hn hi hf hl hm
    obtain ⟨fuel, rfl⟩ : ∃ f, fuel = f + 1 := ⟨fuel - 1, by omega⟩
    have hS0 := hS
    rcases hS with ⟨a, ha, rfl, rfl⟩ | ⟨a, S, rfl, rfl, hSl⟩
    · obtain ⟨v, r1, u, q1, a1, b1, s1, e1⟩ := ttext hs hS0
      obtain rfl := hm rfl
      obtain ⟨l, r', q', m2, g1, g2, g3, g4, g5⟩ := ih fuel (i + 1) r1 q1 (m.Names_ ++ [v]) { m with Names_ := m.Names_ ++ [u] } s1 (by rw [hn]; congr 1; omega) (by omega) (by omega) (by simp; omega) (fun ho => by obtain ⟨_, rfl⟩ := e1 ho; rfl)
      refine ⟨l, r', q', m2, loop_next ?_ g1, loop_next ?_ g2, g3, fun ho => ⟨rfl, (g4 ho).2⟩, fun ho hx => g5 ho fun x hm => ?_⟩
      · unfold wire_reader_names_L1
        refine cond_t (by simp <;> omega) (bind_eq a1 (bind_eq (room_eq (by simp; omega) (by simp; omega)) ?_))
        have e6 : w64 (((k + 1 : Nat) : Int) - 1) = (k : Int) := by rw [w64_eq ⟨by omega, by omega⟩]; omega
        show some (Step.next (w64 (((k + 1 : Nat) : Int) - 1), r1, m.Names_ ++ [v])) = _
        rw [e6]
      · have e6 : w64 ((i : Int) + 1) = ((i + 1 : Nat) : Int) := by rw [w64_eq ⟨by omega, by omega⟩]; rfl
        rw [← e6]
        refine nx_names ?_ b1 (room_eq (xs := m.Names_) (by simp; omega) (by simp; omega))
        rw [hn]
        simp; omega
      · rcases List.mem_append.1 hm with hm | hm
        · exact hx x hm
        · obtain rfl := List.mem_singleton.1 hm
          exact trivial
    · refine ⟨acc, ⟨y, a, false⟩, ⟨S, true⟩, m, loop_done ?_, loop_done (nd_names ?_), .inr ⟨a, S, rfl, rfl, hSl⟩, (fun ho => nomatch ho), (fun ho => nomatch ho)⟩
      · unfold wire_reader_names_L1
        exact cond_f (by simp) rfl
      · simp

theorem nd_qids {y3 : ref09_In × Int} {i : Int} {q : ref09_In} {m : api_Msg} (h : (decide (i < y3.2) && !q.Bad_) = false) : ref09_readList_L2 y3 (st i q m) = some (.done (dn q m)) := by
  unfold ref09_readList_L2
  exact cond_f h rfl
theorem nx_qids {y3 : ref09_In × Int} {i : Int} {q q1 : ref09_In} {m : api_Msg} {u : api_Qid} {l : List api_Qid} (h : (decide (i < y3.2) && !q.Bad_) = true) (hu : ref09_getQid q = some (q1, u)) (hr : room 24 m.Qids_ [u] = some l) : ref09_readList_L2 y3 (st i q m) = some (.next (st (w64 (i + 1)) q1 { m with Qids_ := l })) := by
  unfold ref09_readList_L2
  exact cond_t h (bind_eq hu (bind_eq hr rfl))
theorem tw_qids_loop (y : Str) (hs : y.length ≤ 1000000) (y3 : ref09_In × Int) (k : Nat) : ∀ (fuel i : Nat) (r : wire_reader) (q : ref09_In) (acc : List api_Qid) (m : api_Msg), Sim y r q → y3.2 = ((i + k : Nat) : Int) → i + k ≤ 65535 → k < fuel → acc.length + k ≤ 65535 → (r.ok_ = true → m.Qids_ = acc) →
    ∃ l r' q' m2, loopF wire_reader_qids_L1 fuel ((k : Int), r, acc) = some (l, r') ∧ loopF (ref09_readList_L2 y3) fuel (st (i : Int) q m) = some (dn q' m2) ∧ Sim y r' q' ∧ (r'.ok_ = true → r.ok_ = true ∧ m2 = { m with Qids_ := l }) ∧ (r'.ok_ = true → (∀ x ∈ acc, x.ok) → ∀ x ∈ l, x.ok) := by
  induction k with
  | zero =>
    intro fuel i r q acc m hS hn hi hf hl hm
    obtain ⟨fuel, rfl⟩ : ∃ f, fuel = f + 1 := ⟨fuel - 1, by omega⟩
    refine ⟨acc, r, q, m, loop_done ?_, loop_done (nd_qids ?_), hS, fun ho => ⟨ho, ?_⟩, fun _ h => h⟩
    · unfold wire_reader_qids_L1
      exact cond_f (by simp) rfl
    · rw [hn]
      simp
    · rw [← hm ho]
  | succ k ih =>
    intro fuel i r q acc m hS hn hi hf hl hm
    obtain ⟨fuel, rfl⟩ : ∃ f, fuel = f + 1 := ⟨fuel - 1, by omega⟩
    have hS0 := hS
    rcases hS with ⟨a, ha, rfl, rfl⟩ | ⟨a, S, rfl, rfl, hSl⟩
    · obtain ⟨v, r1, u, q1, a1, b1, s1, e1⟩ := tqid hs hS0
      obtain rfl := hm rfl
      obtain ⟨l, r', q', m2, g1, g2, g3, g4, g5⟩ := ih fuel (i + 1) r1 q1 (m.Qids_ ++ [v]) { m with Qids_ := m.Qids_ ++ [u] } s1 (by rw [hn]; congr 1; omega) (by omega) (by omega) (by simp; omega) (fun ho => by obtain ⟨_, rfl⟩ := e1 ho; rfl)
      refine ⟨l, r', q', m2, loop_next ?_ g1, loop_next ?_ g2, g3, fun ho => ⟨rfl, (g4 ho).2⟩, fun ho hx => g5 ho fun x hm => ?_⟩
      · unfold wire_reader_qids_L1
        refine cond_t (by simp <;> omega) (bind_eq a1 (bind_eq (room_eq (by simp; omega) (by simp; omega)) ?_))
        have e6 : w64 (((k + 1 : Nat) : Int) - 1) = (k : Int) := by rw [w64_eq ⟨by omega, by omega⟩]; omega
        show some (Step.next (w64 (((k + 1 : Nat) : Int) - 1), r1, m.Qids_ ++ [v])) = _
        rw [e6]
      · have e6 : w64 ((i : Int) + 1) = ((i + 1 : Nat) : Int) := by rw [w64_eq ⟨by omega, by omega⟩]; rfl
        rw [← e6]
        refine nx_qids ?_ b1 (room_eq (xs := m.Qids_) (by simp; omega) (by simp; omega))
        rw [hn]
        simp; omega
      · rcases List.mem_append.1 hm with hm | hm
        · exact hx x hm
        · obtain rfl := List.mem_singleton.1 hm
          exact qid_in hs hS0 a1 (g4 ho).1
    · refine ⟨acc, ⟨y, a, false⟩, ⟨S, true⟩, m, loop_done ?_, loop_done (nd_qids ?_), .inr ⟨a, S, rfl, rfl, hSl⟩, (fun ho => nomatch ho), (fun ho => nomatch ho)⟩
      · unfold wire_reader_qids_L1
        exact cond_f (by simp) rfl
      · simp

/-- What the qids of a message are known to be. -/
def MQ (m : api_Msg) : Prop := (∀ x ∈ m.Qids_, x.ok) ∧ m.Qid_.ok
/-- The field of a message. -/
def Fld (y : Str) (r : wire_reader) (m m' : api_Msg) (x : Option (wire_reader × api_Msg)) (z : Option (ref09_In × api_Msg)) : Prop := ∃ r1 m1 q1 m2, x = some (r1, m1) ∧ z = some (q1, m2) ∧ Sim y r1 q1 ∧ (r1.ok_ = true → r.ok_ = true ∧ (m = m' → m1 = m2)) ∧ (r1.ok_ = true → MQ m → MQ m1)
theorem f_m {y : Str} {r : wire_reader} {q : ref09_In} (m m' : api_Msg) (hs : y.length ≤ 1000000) (h : Sim y r q) : Fld y r m m' (wire_reader_field r m 109) (ref09_read q m' 1) := by
  obtain ⟨v, r1, u, q1, a1, b1, s1, e1⟩ := tnum (n := 4) (by omega) (by omega) hs h
  refine ⟨r1, { m with Msize_ := v }, q1, { m' with Msize_ := u }, ?_, ?_, s1, fun ho => ⟨(e1 ho).1, fun e => by rw [(e1 ho).2, e]⟩, fun ho h' => h'⟩
  · unfold wire_reader_field
    exact cond_t rfl (bind_eq a1 rfl)
  · unfold ref09_read
    exact bind_eq (cond_t rfl (bind_eq b1 rfl)) rfl
theorem f_v {y : Str} {r : wire_reader} {q : ref09_In} (m m' : api_Msg) (hs : y.length ≤ 1000000) (h : Sim y r q) : Fld y r m m' (wire_reader_field r m 118) (ref09_read q m' 2) := by
  obtain ⟨v, r1, u, q1, a1, b1, s1, e1⟩ := ttext hs h
  refine ⟨r1, { m with Version_ := v }, q1, { m' with Version_ := u }, ?_, ?_, s1, fun ho => ⟨(e1 ho).1, fun e => by rw [(e1 ho).2, e]⟩, fun ho h' => h'⟩
  · unfold wire_reader_field
    exact cond_f rfl (cond_t rfl (bind_eq a1 rfl))
  · unfold ref09_read
    exact bind_eq (cond_f rfl (cond_t rfl (bind_eq b1 rfl))) rfl
theorem f_s {y : Str} {r : wire_reader} {q : ref09_In} (m m' : api_Msg) (hs : y.length ≤ 1000000) (h : Sim y r q) : Fld y r m m' (wire_reader_field r m 115) (ref09_read q m' 3) := by
  obtain ⟨v, r1, u, q1, a1, b1, s1, e1⟩ := ttext hs h
  refine ⟨r1, { m with Session_ := v }, q1, { m' with Session_ := u }, ?_, ?_, s1, fun ho => ⟨(e1 ho).1, fun e => by rw [(e1 ho).2, e]⟩, fun ho h' => h'⟩
  · unfold wire_reader_field
    exact cond_f rfl (cond_f rfl (cond_t rfl (bind_eq a1 rfl)))
  · unfold ref09_read
    exact bind_eq (cond_f rfl (cond_f rfl (cond_t rfl (bind_eq b1 rfl)))) rfl
theorem f_a {y : Str} {r : wire_reader} {q : ref09_In} (m m' : api_Msg) (hs : y.length ≤ 1000000) (h : Sim y r q) : Fld y r m m' (wire_reader_field r m 97) (ref09_read q m' 4) := by
  obtain ⟨v, r1, u, q1, a1, b1, s1, e1⟩ := tnum (n := 4) (by omega) (by omega) hs h
  refine ⟨r1, { m with AuthFid_ := v }, q1, { m' with AuthFid_ := u }, ?_, ?_, s1, fun ho => ⟨(e1 ho).1, fun e => by rw [(e1 ho).2, e]⟩, fun ho h' => h'⟩
  · unfold wire_reader_field
    exact cond_f rfl (cond_f rfl (cond_f rfl (cond_t rfl (bind_eq a1 rfl))))
  · unfold ref09_read
    exact bind_eq (cond_f rfl (cond_f rfl (cond_f rfl (cond_t rfl (bind_eq b1 rfl))))) rfl
theorem f_u {y : Str} {r : wire_reader} {q : ref09_In} (m m' : api_Msg) (hs : y.length ≤ 1000000) (h : Sim y r q) : Fld y r m m' (wire_reader_field r m 117) (ref09_read q m' 5) := by
  obtain ⟨v, r1, u, q1, a1, b1, s1, e1⟩ := ttext hs h
  refine ⟨r1, { m with User_ := v }, q1, { m' with User_ := u }, ?_, ?_, s1, fun ho => ⟨(e1 ho).1, fun e => by rw [(e1 ho).2, e]⟩, fun ho h' => h'⟩
  · unfold wire_reader_field
    exact cond_f rfl (cond_f rfl (cond_f rfl (cond_f rfl (cond_t rfl (bind_eq a1 rfl)))))
  · unfold ref09_read
    exact bind_eq (cond_f rfl (cond_f rfl (cond_f rfl (cond_f rfl (cond_t rfl (bind_eq b1 rfl)))))) rfl
theorem f_x {y : Str} {r : wire_reader} {q : ref09_In} (m m' : api_Msg) (hs : y.length ≤ 1000000) (h : Sim y r q) : Fld y r m m' (wire_reader_field r m 120) (ref09_read q m' 6) := by
  obtain ⟨v, r1, u, q1, a1, b1, s1, e1⟩ := ttext hs h
  refine ⟨r1, { m with Attach_ := v }, q1, { m' with Attach_ := u }, ?_, ?_, s1, fun ho => ⟨(e1 ho).1, fun e => by rw [(e1 ho).2, e]⟩, fun ho h' => h'⟩
  · unfold wire_reader_field
    exact cond_f rfl (cond_f rfl (cond_f rfl (cond_f rfl (cond_f rfl (cond_t rfl (bind_eq a1 rfl))))))
  · unfold ref09_read
    exact bind_eq (cond_f rfl (cond_f rfl (cond_f rfl (cond_f rfl (cond_f rfl (cond_t rfl (bind_eq b1 rfl))))))) rfl
theorem f_q {y : Str} {r : wire_reader} {q : ref09_In} (m m' : api_Msg) (hs : y.length ≤ 1000000) (h : Sim y r q) : Fld y r m m' (wire_reader_field r m 113) (ref09_read q m' 7) := by
  obtain ⟨v, r1, u, q1, a1, b1, s1, e1⟩ := tqid hs h
  refine ⟨r1, { m with Qid_ := v }, q1, { m' with Qid_ := u }, ?_, ?_, s1, fun ho => ⟨(e1 ho).1, fun e => by rw [(e1 ho).2, e]⟩, fun ho h' => ⟨h'.1, qid_in hs h a1 ho⟩⟩
  · unfold wire_reader_field
    exact cond_f rfl (cond_f rfl (cond_f rfl (cond_f rfl (cond_f rfl (cond_f rfl (cond_t rfl (bind_eq a1 rfl)))))))
  · unfold ref09_read
    exact bind_eq (cond_f rfl (cond_f rfl (cond_f rfl (cond_f rfl (cond_f rfl (cond_f rfl (cond_t rfl (bind_eq b1 rfl)))))))) rfl
theorem f_f {y : Str} {r : wire_reader} {q : ref09_In} (m m' : api_Msg) (hs : y.length ≤ 1000000) (h : Sim y r q) : Fld y r m m' (wire_reader_field r m 102) (ref09_read q m' 8) := by
  obtain ⟨v, r1, u, q1, a1, b1, s1, e1⟩ := tnum (n := 4) (by omega) (by omega) hs h
  refine ⟨r1, { m with Fid_ := v }, q1, { m' with Fid_ := u }, ?_, ?_, s1, fun ho => ⟨(e1 ho).1, fun e => by rw [(e1 ho).2, e]⟩, fun ho h' => h'⟩
  · unfold wire_reader_field
    exact cond_f rfl (cond_f rfl (cond_f rfl (cond_f rfl (cond_f rfl (cond_f rfl (cond_f rfl (cond_t rfl (bind_eq a1 rfl))))))))
  · unfold ref09_read
    exact bind_eq (cond_f rfl (cond_f rfl (cond_f rfl (cond_f rfl (cond_f rfl (cond_f rfl (cond_f rfl (cond_t rfl (bind_eq b1 rfl))))))))) rfl
theorem f_e {y : Str} {r : wire_reader} {q : ref09_In} (m m' : api_Msg) (hs : y.length ≤ 1000000) (h : Sim y r q) : Fld y r m m' (wire_reader_field r m 101) (ref09_read q m' 9) := by
  obtain ⟨v, r1, u, q1, a1, b1, s1, e1⟩ := tfault hs h
  refine ⟨r1, { m with Err_ := v }, q1, { m' with Err_ := u }, ?_, ?_, s1, fun ho => ⟨(e1 ho).1, fun e => by rw [(e1 ho).2, e]⟩, fun ho h' => h'⟩
  · unfold wire_reader_field
    exact cond_f rfl (cond_f rfl (cond_f rfl (cond_f rfl (cond_f rfl (cond_f rfl (cond_f rfl (cond_f rfl (cond_t rfl (bind_eq a1 rfl)))))))))
  · obtain ⟨x, bx, b1⟩ := bind_split b1
    obtain ⟨z, bz, b1⟩ := bind_split b1
    obtain ⟨rfl, rfl⟩ := Prod.mk.inj (Option.some.inj b1)
    unfold ref09_read
    refine bind_eq (cond_f rfl (cond_f rfl (cond_f rfl (cond_f rfl (cond_f rfl (cond_f rfl (cond_f rfl (cond_f rfl (cond_f rfl (cond_f rfl (cond_f rfl (cond_f rfl (cond_f rfl (cond_f rfl (cond_f rfl (cond_f rfl (cond_f rfl (cond_f rfl (bind_eq (a := (_, { m' with Err_ := _ })) ?_ rfl))))))))))))))))))) rfl
    unfold ref09_readList
    exact bind_eq (cond_t rfl (bind_eq bx (bind_eq bz rfl))) rfl
theorem f_o {y : Str} {r : wire_reader} {q : ref09_In} (m m' : api_Msg) (hs : y.length ≤ 1000000) (h : Sim y r q) : Fld y r m m' (wire_reader_field r m 111) (ref09_read q m' 10) := by
  obtain ⟨v, r1, u, q1, a1, b1, s1, e1⟩ := tnum (n := 2) (by omega) (by omega) hs h
  refine ⟨r1, { m with OldTag_ := v }, q1, { m' with OldTag_ := u }, ?_, ?_, s1, fun ho => ⟨(e1 ho).1, fun e => by rw [(e1 ho).2, e]⟩, fun ho h' => h'⟩
  · unfold wire_reader_field
    exact cond_f rfl (cond_f rfl (cond_f rfl (cond_f rfl (cond_f rfl (cond_f rfl (cond_f rfl (cond_f rfl (cond_f rfl (cond_t rfl (bind_eq a1 rfl))))))))))
  · unfold ref09_read
    exact bind_eq (cond_f rfl (cond_f rfl (cond_f rfl (cond_f rfl (cond_f rfl (cond_f rfl (cond_f rfl (cond_f rfl (cond_t rfl (bind_eq b1 rfl)))))))))) rfl
theorem f_n {y : Str} {r : wire_reader} {q : ref09_In} (m m' : api_Msg) (hs : y.length ≤ 1000000) (h : Sim y r q) : Fld y r m m' (wire_reader_field r m 110) (ref09_read q m' 11) := by
  obtain ⟨v, r1, u, q1, a1, b1, s1, e1⟩ := tnum (n := 4) (by omega) (by omega) hs h
  refine ⟨r1, { m with NewFid_ := v }, q1, { m' with NewFid_ := u }, ?_, ?_, s1, fun ho => ⟨(e1 ho).1, fun e => by rw [(e1 ho).2, e]⟩, fun ho h' => h'⟩
  · unfold wire_reader_field
    exact cond_f rfl (cond_f rfl (cond_f rfl (cond_f rfl (cond_f rfl (cond_f rfl (cond_f rfl (cond_f rfl (cond_f rfl (cond_f rfl (cond_t rfl (bind_eq a1 rfl)))))))))))
  · unfold ref09_read
    exact bind_eq (cond_f rfl (cond_f rfl (cond_f rfl (cond_f rfl (cond_f rfl (cond_f rfl (cond_f rfl (cond_f rfl (cond_f rfl (cond_t rfl (bind_eq b1 rfl))))))))))) rfl
theorem f_w {y : Str} {r : wire_reader} {q : ref09_In} (m m' : api_Msg) (hs : y.length ≤ 1000000) (h : Sim y r q) (hm : r.ok_ = true → m'.Names_ = []) : Fld y r m m' (wire_reader_field r m 119) (ref09_read q m' 12) := by
  rcases snum (n := 2) (by omega) (by omega) hs h with ⟨a, ha, ⟨ho, _⟩, e1, e2⟩ | ⟨v, a, e1, e2⟩
  · have hv := leV_two y a ha
    obtain ⟨l, r', q', m2, g1, g2, g3, g4, g5⟩ := tw_names_loop y hs (⟨y.drop (a + 2), false⟩, (leV (win y a 2) : Int)) (leV (win y a 2)) BIG 0 ⟨y, ((a + 2 : Nat) : Int), true⟩ ⟨y.drop (a + 2), false⟩ [] m' (.inl ⟨a + 2, ha, rfl, rfl⟩) (by rw [Nat.zero_add]) (by omega) (by show _ < 18446744073709551616; omega) (by simp; omega) (fun _ => hm ho)
    have x1 : wire_reader_names r = some (l, r') := by
      unfold wire_reader_names
      exact bind_eq e1 (bind_eq g1 rfl)
    have x2 : ref09_readList q m' 12 = some (q', m2) := by
      unfold ref09_readList
      exact bind_eq (cond_f rfl (cond_t rfl (bind_eq e2 (bind_eq g2 rfl)))) rfl
    refine ⟨r', { m with Names_ := l }, q', m2, ?_, ?_, g3, fun ho' => ⟨ho, fun e => ?_⟩, fun ho' h => h⟩
    · unfold wire_reader_field
      exact cond_f rfl (cond_f rfl (cond_f rfl (cond_f rfl (cond_f rfl (cond_f rfl (cond_f rfl (cond_f rfl (cond_f rfl (cond_f rfl (cond_f rfl (cond_t rfl (bind_eq x1 rfl))))))))))))
    · unfold ref09_read
      exact bind_eq (cond_f rfl (cond_f rfl (cond_f rfl (cond_f rfl (cond_f rfl (cond_f rfl (cond_f rfl (cond_f rfl (cond_f rfl (cond_f rfl (cond_f rfl (cond_f rfl (cond_f rfl (cond_f rfl (cond_f rfl (cond_f rfl (cond_f rfl (cond_f rfl (bind_eq x2 rfl))))))))))))))))))) rfl
    · rw [(g4 ho').2, e]
  · have x1 : wire_reader_names r = some ([], ⟨y, a, false⟩) := by
      unfold wire_reader_names
      refine bind_eq e1 (bind_eq (loop_done (n := 18446744073709551615) (b := ([], (⟨y, a, false⟩ : wire_reader))) ?_) rfl)
      unfold wire_reader_names_L1
      exact cond_f (by simp) rfl
    have x3 : loopF (ref09_readList_L1 (⟨[], true⟩, 0)) BIG (st 0 ⟨[], true⟩ m') = some (dn ⟨[], true⟩ m') := by
      refine loop_done (n := 18446744073709551615) ?_
      unfold ref09_readList_L1
      exact cond_f rfl rfl
    have x2 : ref09_readList q m' 12 = some (⟨[], true⟩, m') := by
      unfold ref09_readList
      exact bind_eq (cond_f rfl (cond_t rfl (bind_eq e2 (bind_eq x3 rfl)))) rfl
    refine ⟨⟨y, a, false⟩, { m with Names_ := [] }, ⟨[], true⟩, m', ?_, ?_, .inr ⟨a, [], rfl, rfl, bad_len⟩, (fun e => nomatch e), (fun e => nomatch e)⟩
    · unfold wire_reader_field
      exact cond_f rfl (cond_f rfl (cond_f rfl (cond_f rfl (cond_f rfl (cond_f rfl (cond_f rfl (cond_f rfl (cond_f rfl (cond_f rfl (cond_f rfl (cond_t rfl (bind_eq x1 rfl))))))))))))
    · unfold ref09_read
      exact bind_eq (cond_f rfl (cond_f rfl (cond_f rfl (cond_f rfl (cond_f rfl (cond_f rfl (cond_f rfl (cond_f rfl (cond_f rfl (cond_f rfl (cond_f rfl (cond_f rfl (cond_f rfl (cond_f rfl (cond_f rfl (cond_f rfl (cond_f rfl (cond_f rfl (bind_eq x2 rfl))))))))))))))))))) rfl
theorem f_W {y : Str} {r : wire_reader} {q : ref09_In} (m m' : api_Msg) (hs : y.length ≤ 1000000) (h : Sim y r q) (hm : r.ok_ = true → m'.Qids_ = []) : Fld y r m m' (wire_reader_field r m 87) (ref09_read q m' 13) := by
  rcases snum (n := 2) (by omega) (by omega) hs h with ⟨a, ha, ⟨ho, _⟩, e1, e2⟩ | ⟨v, a, e1, e2⟩
  · have hv := leV_two y a ha
    obtain ⟨l, r', q', m2, g1, g2, g3, g4, g5⟩ := tw_qids_loop y hs (⟨y.drop (a + 2), false⟩, (leV (win y a 2) : Int)) (leV (win y a 2)) BIG 0 ⟨y, ((a + 2 : Nat) : Int), true⟩ ⟨y.drop (a + 2), false⟩ [] m' (.inl ⟨a + 2, ha, rfl, rfl⟩) (by rw [Nat.zero_add]) (by omega) (by show _ < 18446744073709551616; omega) (by simp; omega) (fun _ => hm ho)
    have x1 : wire_reader_qids r = some (l, r') := by
      unfold wire_reader_qids
      exact bind_eq e1 (bind_eq g1 rfl)
    have x2 : ref09_readList q m' 13 = some (q', m2) := by
      unfold ref09_readList
      exact bind_eq (cond_f rfl (cond_f rfl (cond_t rfl (bind_eq e2 (bind_eq g2 rfl))))) rfl
    refine ⟨r', { m with Qids_ := l }, q', m2, ?_, ?_, g3, fun ho' => ⟨ho, fun e => ?_⟩, fun ho' h => ⟨g5 ho' (fun _ hx => nomatch hx), h.2⟩⟩
    · unfold wire_reader_field
      exact cond_f rfl (cond_f rfl (cond_f rfl (cond_f rfl (cond_f rfl (cond_f rfl (cond_f rfl (cond_f rfl (cond_f rfl (cond_f rfl (cond_f rfl (cond_f rfl (cond_t rfl (bind_eq x1 rfl)))))))))))))
    · unfold ref09_read
      exact bind_eq (cond_f rfl (cond_f rfl (cond_f rfl (cond_f rfl (cond_f rfl (cond_f rfl (cond_f rfl (cond_f rfl (cond_f rfl (cond_f rfl (cond_f rfl (cond_f rfl (cond_f rfl (cond_f rfl (cond_f rfl (cond_f rfl (cond_f rfl (cond_f rfl (bind_eq x2 rfl))))))))))))))))))) rfl
    · rw [(g4 ho').2, e]
  · have x1 : wire_reader_qids r = some ([], ⟨y, a, false⟩) := by
      unfold wire_reader_qids
      refine bind_eq e1 (bind_eq (loop_done (n := 18446744073709551615) (b := ([], (⟨y, a, false⟩ : wire_reader))) ?_) rfl)
      unfold wire_reader_qids_L1
      exact cond_f (by simp) rfl
    have x3 : loopF (ref09_readList_L2 (⟨[], true⟩, 0)) BIG (st 0 ⟨[], true⟩ m') = some (dn ⟨[], true⟩ m') := by
      refine loop_done (n := 18446744073709551615) ?_
      unfold ref09_readList_L2
      exact cond_f rfl rfl
    have x2 : ref09_readList q m' 13 = some (⟨[], true⟩, m') := by
      unfold ref09_readList
      exact bind_eq (cond_f rfl (cond_f rfl (cond_t rfl (bind_eq e2 (bind_eq x3 rfl))))) rfl
    refine ⟨⟨y, a, false⟩, { m with Qids_ := [] }, ⟨[], true⟩, m', ?_, ?_, .inr ⟨a, [], rfl, rfl, bad_len⟩, (fun e => nomatch e), (fun e => nomatch e)⟩
    · unfold wire_reader_field
      exact cond_f rfl (cond_f rfl (cond_f rfl (cond_f rfl (cond_f rfl (cond_f rfl (cond_f rfl (cond_f rfl (cond_f rfl (cond_f rfl (cond_f rfl (cond_f rfl (cond_t rfl (bind_eq x1 rfl)))))))))))))
    · unfold ref09_read
      exact bind_eq (cond_f rfl (cond_f rfl (cond_f rfl (cond_f rfl (cond_f rfl (cond_f rfl (cond_f rfl (cond_f rfl (cond_f rfl (cond_f rfl (cond_f rfl (cond_f rfl (cond_f rfl (cond_f rfl (cond_f rfl (cond_f rfl (cond_f rfl (cond_f rfl (bind_eq x2 rfl))))))))))))))))))) rfl
theorem f_M {y : Str} {r : wire_reader} {q : ref09_In} (m m' : api_Msg) (hs : y.length ≤ 1000000) (h : Sim y r q) : Fld y r m m' (wire_reader_field r m 77) (ref09_read q m' 14) := by
  obtain ⟨v, r1, u, q1, a1, b1, s1, e1⟩ := tnum (n := 1) (by omega) (by omega) hs h
  refine ⟨r1, { m with Mode_ := v }, q1, { m' with Mode_ := u }, ?_, ?_, s1, fun ho => ⟨(e1 ho).1, fun e => by rw [(e1 ho).2, e]⟩, fun ho h' => h'⟩
  · unfold wire_reader_field
    exact cond_f rfl (cond_f rfl (cond_f rfl (cond_f rfl (cond_f rfl (cond_f rfl (cond_f rfl (cond_f rfl (cond_f rfl (cond_f rfl (cond_f rfl (cond_f rfl (cond_f rfl (cond_t rfl (bind_eq a1 rfl))))))))))))))
  · unfold ref09_read
    exact bind_eq (cond_f rfl (cond_f rfl (cond_f rfl (cond_f rfl (cond_f rfl (cond_f rfl (cond_f rfl (cond_f rfl (cond_f rfl (cond_f rfl (cond_t rfl (bind_eq b1 rfl)))))))))))) rfl
theorem f_i {y : Str} {r : wire_reader} {q : ref09_In} (m m' : api_Msg) (hs : y.length ≤ 1000000) (h : Sim y r q) : Fld y r m m' (wire_reader_field r m 105) (ref09_read q m' 15) := by
  obtain ⟨v, r1, u, q1, a1, b1, s1, e1⟩ := tnum (n := 4) (by omega) (by omega) hs h
  refine ⟨r1, { m with Iounit_ := v }, q1, { m' with Iounit_ := u }, ?_, ?_, s1, fun ho => ⟨(e1 ho).1, fun e => by rw [(e1 ho).2, e]⟩, fun ho h' => h'⟩
  · unfold wire_reader_field
    exact cond_f rfl (cond_f rfl (cond_f rfl (cond_f rfl (cond_f rfl (cond_f rfl (cond_f rfl (cond_f rfl (cond_f rfl (cond_f rfl (cond_f rfl (cond_f rfl (cond_f rfl (cond_f rfl (cond_t rfl (bind_eq a1 rfl)))))))))))))))
  · unfold ref09_read
    exact bind_eq (cond_f rfl (cond_f rfl (cond_f rfl (cond_f rfl (cond_f rfl (cond_f rfl (cond_f rfl (cond_f rfl (cond_f rfl (cond_f rfl (cond_f rfl (cond_t rfl (bind_eq b1 rfl))))))))))))) rfl
theorem f_N {y : Str} {r : wire_reader} {q : ref09_In} (m m' : api_Msg) (hs : y.length ≤ 1000000) (h : Sim y r q) : Fld y r m m' (wire_reader_field r m 78) (ref09_read q m' 16) := by
  obtain ⟨v, r1, u, q1, a1, b1, s1, e1⟩ := ttext hs h
  refine ⟨r1, { m with Name_ := v }, q1, { m' with Name_ := u }, ?_, ?_, s1, fun ho => ⟨(e1 ho).1, fun e => by rw [(e1 ho).2, e]⟩, fun ho h' => h'⟩
  · unfold wire_reader_field
    exact cond_f rfl (cond_f rfl (cond_f rfl (cond_f rfl (cond_f rfl (cond_f rfl (cond_f rfl (cond_f rfl (cond_f rfl (cond_f rfl (cond_f rfl (cond_f rfl (cond_f rfl (cond_f rfl (cond_f rfl (cond_t rfl (bind_eq a1 rfl))))))))))))))))
  · unfold ref09_read
    exact bind_eq (cond_f rfl (cond_f rfl (cond_f rfl (cond_f rfl (cond_f rfl (cond_f rfl (cond_f rfl (cond_f rfl (cond_f rfl (cond_f rfl (cond_f rfl (cond_f rfl (cond_t rfl (bind_eq b1 rfl)))))))))))))) rfl
theorem f_p {y : Str} {r : wire_reader} {q : ref09_In} (m m' : api_Msg) (hs : y.length ≤ 1000000) (h : Sim y r q) : Fld y r m m' (wire_reader_field r m 112) (ref09_read q m' 17) := by
  obtain ⟨v, r1, u, q1, a1, b1, s1, e1⟩ := tnum (n := 4) (by omega) (by omega) hs h
  refine ⟨r1, { m with Perm_ := v }, q1, { m' with Perm_ := u }, ?_, ?_, s1, fun ho => ⟨(e1 ho).1, fun e => by rw [(e1 ho).2, e]⟩, fun ho h' => h'⟩
  · unfold wire_reader_field
    exact cond_f rfl (cond_f rfl (cond_f rfl (cond_f rfl (cond_f rfl (cond_f rfl (cond_f rfl (cond_f rfl (cond_f rfl (cond_f rfl (cond_f rfl (cond_f rfl (cond_f rfl (cond_f rfl (cond_f rfl (cond_f rfl (cond_t rfl (bind_eq a1 rfl)))))))))))))))))
  · unfold ref09_read
    exact bind_eq (cond_f rfl (cond_f rfl (cond_f rfl (cond_f rfl (cond_f rfl (cond_f rfl (cond_f rfl (cond_f rfl (cond_f rfl (cond_f rfl (cond_f rfl (cond_f rfl (cond_f rfl (cond_t rfl (bind_eq b1 rfl))))))))))))))) rfl
theorem f_O {y : Str} {r : wire_reader} {q : ref09_In} (m m' : api_Msg) (hs : y.length ≤ 1000000) (h : Sim y r q) : Fld y r m m' (wire_reader_field r m 79) (ref09_read q m' 18) := by
  obtain ⟨v, r1, u, q1, a1, b1, s1, e1⟩ := tnum (n := 8) (by omega) (by omega) hs h
  refine ⟨r1, { m with Offset_ := v }, q1, { m' with Offset_ := u }, ?_, ?_, s1, fun ho => ⟨(e1 ho).1, fun e => by rw [(e1 ho).2, e]⟩, fun ho h' => h'⟩
  · unfold wire_reader_field
    exact cond_f rfl (cond_f rfl (cond_f rfl (cond_f rfl (cond_f rfl (cond_f rfl (cond_f rfl (cond_f rfl (cond_f rfl (cond_f rfl (cond_f rfl (cond_f rfl (cond_f rfl (cond_f rfl (cond_f rfl (cond_f rfl (cond_f rfl (cond_t rfl (bind_eq a1 rfl))))))))))))))))))
  · unfold ref09_read
    exact bind_eq (cond_f rfl (cond_f rfl (cond_f rfl (cond_f rfl (cond_f rfl (cond_f rfl (cond_f rfl (cond_f rfl (cond_f rfl (cond_f rfl (cond_f rfl (cond_f rfl (cond_f rfl (cond_f rfl (cond_t rfl (bind_eq b1 rfl)))))))))))))))) rfl
theorem f_c {y : Str} {r : wire_reader} {q : ref09_In} (m m' : api_Msg) (hs : y.length ≤ 1000000) (h : Sim y r q) : Fld y r m m' (wire_reader_field r m 99) (ref09_read q m' 19) := by
  obtain ⟨v, r1, u, q1, a1, b1, s1, e1⟩ := tnum (n := 4) (by omega) (by omega) hs h
  refine ⟨r1, { m with Count_ := v }, q1, { m' with Count_ := u }, ?_, ?_, s1, fun ho => ⟨(e1 ho).1, fun e => by rw [(e1 ho).2, e]⟩, fun ho h' => h'⟩
  · unfold wire_reader_field
    exact cond_f rfl (cond_f rfl (cond_f rfl (cond_f rfl (cond_f rfl (cond_f rfl (cond_f rfl (cond_f rfl (cond_f rfl (cond_f rfl (cond_f rfl (cond_f rfl (cond_f rfl (cond_f rfl (cond_f rfl (cond_f rfl (cond_f rfl (cond_f rfl (cond_t rfl (bind_eq a1 rfl)))))))))))))))))))
  · unfold ref09_read
    exact bind_eq (cond_f rfl (cond_f rfl (cond_f rfl (cond_f rfl (cond_f rfl (cond_f rfl (cond_f rfl (cond_f rfl (cond_f rfl (cond_f rfl (cond_f rfl (cond_f rfl (cond_f rfl (cond_f rfl (cond_f rfl (cond_t rfl (bind_eq b1 rfl))))))))))))))))) rfl
theorem f_d {y : Str} {r : wire_reader} {q : ref09_In} (m m' : api_Msg) (hs : y.length ≤ 1000000) (h : Sim y r q) : Fld y r m m' (wire_reader_field r m 100) (ref09_read q m' 20) := by
  obtain ⟨v, r1, u, q1, a1, b1, s1, e1⟩ := tdata (n := 4) (by omega) (by omega) hs h
  refine ⟨r1, { m with Data_ := v }, q1, { m' with Data_ := u }, ?_, ?_, s1, fun ho => ⟨(e1 ho).1, fun e => by rw [(e1 ho).2, e]⟩, fun ho h' => h'⟩
  · unfold wire_reader_field
    exact cond_f rfl (cond_f rfl (cond_f rfl (cond_f rfl (cond_f rfl (cond_f rfl (cond_f rfl (cond_f rfl (cond_f rfl (cond_f rfl (cond_f rfl (cond_f rfl (cond_f rfl (cond_f rfl (cond_f rfl (cond_f rfl (cond_f rfl (cond_f rfl (cond_f rfl (cond_t rfl (bind_eq a1 rfl))))))))))))))))))))
  · obtain ⟨x, bx, b1⟩ := bind_split b1
    unfold ref09_read
    refine bind_eq (cond_f rfl (cond_f rfl (cond_f rfl (cond_f rfl (cond_f rfl (cond_f rfl (cond_f rfl (cond_f rfl (cond_f rfl (cond_f rfl (cond_f rfl (cond_f rfl (cond_f rfl (cond_f rfl (cond_f rfl (cond_f rfl (cond_f rfl (cond_f rfl (bind_eq (a := (_, { m' with Data_ := _ })) ?_ rfl))))))))))))))))))) rfl
    unfold ref09_readList
    exact bind_eq (cond_f rfl (cond_f rfl (cond_f rfl (cond_t rfl (bind_eq bx (bind_eq b1 rfl)))))) rfl
theorem f_S {y : Str} {r : wire_reader} {q : ref09_In} (m m' : api_Msg) (hs : y.length ≤ 1000000) (h : Sim y r q) : Fld y r m m' (wire_reader_field r m 83) (ref09_read q m' 21) := by
  obtain ⟨v, r1, u, q1, a1, b1, s1, e1⟩ := tstat hs h
  refine ⟨r1, { m with Stat_ := v }, q1, { m' with Stat_ := u }, ?_, ?_, s1, fun ho => ⟨(e1 ho).1, fun e => by rw [(e1 ho).2, e]⟩, fun ho h' => h'⟩
  · unfold wire_reader_field
    exact cond_f rfl (cond_f rfl (cond_f rfl (cond_f rfl (cond_f rfl (cond_f rfl (cond_f rfl (cond_f rfl (cond_f rfl (cond_f rfl (cond_f rfl (cond_f rfl (cond_f rfl (cond_f rfl (cond_f rfl (cond_f rfl (cond_f rfl (cond_f rfl (cond_f rfl (cond_f rfl (cond_t rfl (bind_eq a1 rfl)))))))))))))))))))))
  · obtain ⟨x, bx, b1⟩ := bind_split b1
    obtain ⟨z, bz, b1⟩ := bind_split b1
    obtain ⟨d, bd, b1⟩ := bind_split b1
    obtain ⟨rfl, rfl⟩ := Prod.mk.inj (Option.some.inj b1)
    unfold ref09_read
    refine bind_eq (cond_f rfl (cond_f rfl (cond_f rfl (cond_f rfl (cond_f rfl (cond_f rfl (cond_f rfl (cond_f rfl (cond_f rfl (cond_f rfl (cond_f rfl (cond_f rfl (cond_f rfl (cond_f rfl (cond_f rfl (cond_f rfl (cond_f rfl (cond_f rfl (bind_eq (a := (_, { m' with Stat_ := _ })) ?_ rfl))))))))))))))))))) rfl
    unfold ref09_readList
    exact bind_eq (cond_f rfl (cond_f rfl (cond_f rfl (cond_f rfl (cond_t rfl (bind_eq bx (bind_eq bz (bind_eq bd rfl)))))))) rfl
theorem f_l {y : Str} {r : wire_reader} {q : ref09_In} (m m' : api_Msg) (hs : y.length ≤ 1000000) (h : Sim y r q) : Fld y r m m' (wire_reader_field r m 108) (ref09_read q m' 22) := by
  obtain ⟨v, r1, u, q1, a1, b1, s1, e1⟩ := tnum (n := 1) (by omega) (by omega) hs h
  refine ⟨r1, { m with Lease_ := v }, q1, { m' with Lease_ := u }, ?_, ?_, s1, fun ho => ⟨(e1 ho).1, fun e => by rw [(e1 ho).2, e]⟩, fun ho h' => h'⟩
  · unfold wire_reader_field
    exact cond_f rfl (cond_f rfl (cond_f rfl (cond_f rfl (cond_f rfl (cond_f rfl (cond_f rfl (cond_f rfl (cond_f rfl (cond_f rfl (cond_f rfl (cond_f rfl (cond_f rfl (cond_f rfl (cond_f rfl (cond_f rfl (cond_f rfl (cond_f rfl (cond_f rfl (cond_f rfl (cond_f rfl (cond_t rfl (bind_eq a1 rfl))))))))))))))))))))))
  · unfold ref09_read
    exact bind_eq (cond_f rfl (cond_f rfl (cond_f rfl (cond_f rfl (cond_f rfl (cond_f rfl (cond_f rfl (cond_f rfl (cond_f rfl (cond_f rfl (cond_f rfl (cond_f rfl (cond_f rfl (cond_f rfl (cond_f rfl (cond_f rfl (cond_t rfl (bind_eq b1 rfl)))))))))))))))))) rfl
theorem f_t {y : Str} {r : wire_reader} {q : ref09_In} (m m' : api_Msg) (hs : y.length ≤ 1000000) (h : Sim y r q) : Fld y r m m' (wire_reader_field r m 116) (ref09_read q m' 23) := by
  obtain ⟨v, r1, u, q1, a1, b1, s1, e1⟩ := tnum (n := 4) (by omega) (by omega) hs h
  refine ⟨r1, { m with Term_ := v }, q1, { m' with Term_ := u }, ?_, ?_, s1, fun ho => ⟨(e1 ho).1, fun e => by rw [(e1 ho).2, e]⟩, fun ho h' => h'⟩
  · unfold wire_reader_field
    exact cond_f rfl (cond_f rfl (cond_f rfl (cond_f rfl (cond_f rfl (cond_f rfl (cond_f rfl (cond_f rfl (cond_f rfl (cond_f rfl (cond_f rfl (cond_f rfl (cond_f rfl (cond_f rfl (cond_f rfl (cond_f rfl (cond_f rfl (cond_f rfl (cond_f rfl (cond_f rfl (cond_f rfl (cond_f rfl (cond_t rfl (bind_eq a1 rfl)))))))))))))))))))))))
  · unfold ref09_read
    exact bind_eq (cond_f rfl (cond_f rfl (cond_f rfl (cond_f rfl (cond_f rfl (cond_f rfl (cond_f rfl (cond_f rfl (cond_f rfl (cond_f rfl (cond_f rfl (cond_f rfl (cond_f rfl (cond_f rfl (cond_f rfl (cond_f rfl (cond_f rfl (cond_t rfl (bind_eq b1 rfl))))))))))))))))))) rfl
theorem tfield (k : Lt) {y : Str} {r : wire_reader} {q : ref09_In} (m m' : api_Msg) (hs : y.length ≤ 1000000) (h : Sim y r q) (hw : k = .w → r.ok_ = true → m'.Names_ = []) (hW : k = .W → r.ok_ = true → m'.Qids_ = []) : Fld y r m m' (wire_reader_field r m (k.byte : Int)) (ref09_read q m' k.num) := by
  cases k with
  | m => exact f_m m m' hs h
  | v => exact f_v m m' hs h
  | s => exact f_s m m' hs h
  | a => exact f_a m m' hs h
  | u => exact f_u m m' hs h
  | x => exact f_x m m' hs h
  | q => exact f_q m m' hs h
  | f => exact f_f m m' hs h
  | e => exact f_e m m' hs h
  | o => exact f_o m m' hs h
  | n => exact f_n m m' hs h
  | w => exact f_w m m' hs h (hw rfl)
  | W => exact f_W m m' hs h (hW rfl)
  | M => exact f_M m m' hs h
  | i => exact f_i m m' hs h
  | N => exact f_N m m' hs h
  | p => exact f_p m m' hs h
  | O => exact f_O m m' hs h
  | c => exact f_c m m' hs h
  | d => exact f_d m m' hs h
  | S => exact f_S m m' hs h
  | l => exact f_l m m' hs h
  | t => exact f_t m m' hs h
/-- The states of the reference's loop over the fields. -/
abbrev GsT : Type := Int × Int × Int × Int × Int × Int × Int × Int × Str × Str × Str × Int × Int × Int × Int × Int × Int × Str × Int × Int × Str × Int × Int × Int × Int × Int × Int × Int × Int × Int × Str × Str × Str × Str × Int × Int × Int × Str × (List Str) × (List api_Qid) × ref09_In
abbrev GdT : Type := Int × Int × Int × Int × Int × Int × Int × Str × Str × Str × Int × Int × Int × Int × Int × Int × Str × Int × Int × Str × Int × Int × Int × Int × Int × Int × Int × Int × Int × Str × Str × Str × Str × Int × Int × Int × Str × (List Str) × (List api_Qid) × ref09_In
def gdn (m : api_Msg) (q : ref09_In) : GdT := (m.Kind_, m.Tag_, m.Fid_, m.NewFid_, m.AuthFid_, m.OldTag_, m.Msize_, m.Version_, m.User_, m.Attach_, m.Qid_.Type_, m.Qid_.Vers_, m.Qid_.Path_, m.Iounit_, m.Mode_, m.Perm_, m.Name_, m.Offset_, m.Count_, m.Data_, m.Stat_.Type_, m.Stat_.Dev_, m.Stat_.Qid_.Type_, m.Stat_.Qid_.Vers_, m.Stat_.Qid_.Path_, m.Stat_.Mode_, m.Stat_.Atime_, m.Stat_.Mtime_, m.Stat_.Length_, m.Stat_.Name_, m.Stat_.Uid_, m.Stat_.Gid_, m.Stat_.Muid_, m.Err_, m.Lease_, m.Term_, m.Session_, m.Names_, m.Qids_, q)
def gst (i : Int) (m : api_Msg) (q : ref09_In) : GsT := (i, gdn m q)
theorem ng_done {Y : List Int × Bool} {i : Int} {m : api_Msg} {q : ref09_In} (h : decide (i < (Y.1.length : Int)) = false) : ref09_Get_L1 Y (gst i m q) = some (.done (gdn m q)) := by
  unfold ref09_Get_L1
  exact cond_f h rfl
theorem ng_next {Y : List Int × Bool} {i n : Int} {m m1 : api_Msg} {q q1 : ref09_In} (h : decide (i < (Y.1.length : Int)) = true) (hi : getI Y.1 i = some n) (hr : ref09_read q m n = some (q1, m1)) : ref09_Get_L1 Y (gst i m q) = some (.next (gst (w64 (i + 1)) m1 q1)) := by
  unfold ref09_Get_L1
  exact cond_t h (bind_eq hi (bind_eq hr rfl))
end Go.Proofs.YtboplmpnjepdnaaGreat

/-
  Plain laws: the reference's reading of messages beside the other one. No program in sight.
-/
namespace Go.Proofs.YtboplmpnjepdnaaGreat
open Go.Rt Go.RowKit

theorem Sim.rs {y : Str} {r : wire_reader} {q : ref09_In} (h : Sim y r q) : RS y r := by
  rcases h with ⟨a, ha, rfl, rfl⟩ | ⟨a, S, rfl, rfl, hS⟩
  · exact ⟨rfl, fun _ => ⟨a, rfl, ha⟩⟩
  · exact ⟨rfl, fun e => nomatch e⟩
theorem cp_names {k : Lt} (h : k ≠ .w) (m' m : api_Msg) : (cpF k m' m).Names_ = m.Names_ := by cases k <;> first | exact absurd rfl h | rfl
theorem cp_qids {k : Lt} (h : k ≠ .W) (m' m : api_Msg) : (cpF k m' m).Qids_ = m.Qids_ := by cases k <;> first | exact absurd rfl h | rfl
theorem get_loops (y : Str) (hs : y.length ≤ 1000000) (L : List Lt) (hL : L.length ≤ 100) (B : Bool) (l : List Lt) : ∀ (fuel i : Nat) (r : wire_reader) (q : ref09_In) (m m' : api_Msg), L.drop i = l → i + l.length = L.length → l.Nodup → l.length < fuel → Sim y r q → (r.ok_ = true → m = m') → (r.ok_ = true → .w ∈ l → m.Names_ = []) → (r.ok_ = true → .W ∈ l → m.Qids_ = []) →
    ∃ mf r' q' mf', loopF (wire_Get_L1 (layB L)) fuel ((i : Int), r, m) = some (r', mf) ∧ loopF (ref09_Get_L1 (L.map Lt.num, B)) fuel (gst (i : Int) m' q) = some (gdn mf' q') ∧ Sim y r' q' ∧ (r'.ok_ = true → r.ok_ = true ∧ mf = mf') ∧ (r'.ok_ = true → MQ m → MQ mf) := by
  induction l with
  | nil =>
    intro fuel i r q m m' hd hi _ hf hS hm _ _
    obtain ⟨fuel, rfl⟩ : ∃ f, fuel = f + 1 := ⟨fuel - 1, by omega⟩
    simp only [List.length_nil] at hi
    refine ⟨m, r, q, m', loop_done ?_, loop_done (ng_done ?_), hS, fun ho => ⟨ho, hm ho⟩, fun _ h => h⟩
    · unfold wire_Get_L1
      exact cond_f (by rw [layB_len]; simp; omega) rfl
    · simp; omega
  | cons k l ih =>
    intro fuel i r q m m' hd hi hn hf hS hm hw hW
    obtain ⟨fuel, rfl⟩ : ∃ f, fuel = f + 1 := ⟨fuel - 1, by omega⟩
    simp only [List.length_cons] at hi hf
    have hlt : i < L.length := by omega
    rw [List.drop_eq_getElem_cons hlt] at hd
    simp only [List.cons.injEq] at hd
    obtain ⟨hk, hd⟩ := hd
    obtain ⟨hn1, hn2⟩ := List.nodup_cons.1 hn
    obtain ⟨mc, rc, ec, _⟩ := fstep k m hS.rs hs
    obtain ⟨r1, m1, q1, m2, a1, b1, s1, e1, f1⟩ := tfield k m m' hs hS (fun hk ho => by rw [← hm ho]; exact hw ho (by rw [hk]; exact List.mem_cons_self ..)) (fun hk ho => by rw [← hm ho]; exact hW ho (by rw [hk]; exact List.mem_cons_self ..))
    obtain ⟨rfl, rfl⟩ := Prod.mk.inj (Option.some.inj (ec.symm.trans a1))
    obtain ⟨mf, r', q', mf', g1, g2, g3, g4, g5⟩ := ih fuel (i + 1) rc q1 (cpF k mc m) m2 hd (by omega) hn2 (by omega) s1 (fun ho => (e1 ho).2 (hm (e1 ho).1)) (fun ho hm' => by
      rw [cp_names (fun e => by subst e; exact hn1 hm')]
      exact hw (e1 ho).1 (List.mem_cons_of_mem _ hm')) (fun ho hm' => by
      rw [cp_qids (fun e => by subst e; exact hn1 hm')]
      exact hW (e1 ho).1 (List.mem_cons_of_mem _ hm'))
    have e6 : w64 ((i : Int) + 1) = ((i + 1 : Nat) : Int) := by rw [w64_eq ⟨by omega, by omega⟩]; rfl
    refine ⟨mf, r', q', mf', loop_next ?_ g1, loop_next ?_ g2, g3, fun ho => ⟨(e1 (g4 ho).1).1, (g4 ho).2⟩, fun ho h => g5 ho (f1 (g4 ho).1 h)⟩
    · unfold wire_Get_L1
      refine cond_t (by rw [layB_len]; simp; omega) (bind_eq (layB_byte L i hlt) ?_)
      rw [hk]
      refine bind_eq ec ?_
      rw [← e6]
    · rw [← e6]
      refine ng_next (n := k.num) (by simp; omega) ?_ b1
      rw [getI_lt (by simp; omega)]
      simp [hk]
/-- A number that is there. -/
theorem num_there {y : Str} {a n : Nat} (h1 : 1 ≤ n) (h4 : n ≤ 4) (h : a + n ≤ y.length) (hs : y.length ≤ 1000000) : wire_reader_number ⟨y, (a : Int), true⟩ (n : Int) = some ((leV (win y a n) : Int), ⟨y, ((a + n : Nat) : Int), true⟩) ∧ ref09_number ⟨y.drop a, false⟩ (n : Int) = some (⟨y.drop (a + n), false⟩, (leV (win y a n) : Int)) := by
  have hv := leV_lt (win y a n)
  rw [win_len h] at hv
  have hp : (2 : Nat) ^ (8 * n) ≤ 2 ^ 32 := Nat.pow_le_pow_right (by omega) (by omega)
  rcases snum (n := n) h1 (by omega) hs (.inl ⟨a, by omega, rfl, rfl⟩) with ⟨a', ha', _, e1, e2⟩ | ⟨v, a', e1, _⟩
  · have hg := get_eq y a n h1 (by omega) (by omega) (by omega)
    rw [if_neg (by omega), if_neg (by omega)] at hg
    have hw : wire_reader_number ⟨y, (a : Int), true⟩ (n : Int) = some ((leV (win y a n) : Int), ⟨y, ((a + n : Nat) : Int), true⟩) := by
      unfold wire_reader_number
      exact cond_f rfl (bind_eq hg (cond_f rfl rfl))
    have := hw.symm.trans e1
    simp only [Option.some.injEq, Prod.mk.injEq, wire_reader.mk.injEq, true_and, and_true] at this
    have haa : a' = a := by omega
    subst haa
    exact ⟨e1, e2⟩
  · have hg := get_eq y a n h1 (by omega) (by omega) (by omega)
    rw [if_neg (by omega), if_neg (by omega)] at hg
    have hw : wire_reader_number ⟨y, (a : Int), true⟩ (n : Int) = some ((leV (win y a n) : Int), ⟨y, ((a + n : Nat) : Int), true⟩) := by
      unfold wire_reader_number
      exact cond_f rfl (bind_eq hg (cond_f rfl rfl))
    have := hw.symm.trans e1
    simp at this
/-- The kinds that are none. -/
def isKindB (n : Nat) : Bool := [100, 101, 102, 103, 104, 105, 107, 108, 109, 110, 111, 112, 113, 114, 115, 116, 117, 118, 119, 120, 121, 122, 123, 124, 125, 126, 127, 128, 129, 130, 131].contains n
theorem kinds_all : (List.range 256).all (fun n => isKindB n || (decide (ref09_Fields (n : Int) = some ([], false)) && decide (msg_Name (n : Int) = some []) && decide (wire_layout (n : Int) = some []))) = true := by kernel_rfl
theorem kind_out {n : Nat} (h : n < 256) (hk : isKindB n = false) : ref09_Fields (n : Int) = some ([], false) ∧ msg_Name (n : Int) = some [] ∧ wire_layout (n : Int) = some [] := by
  have := List.all_eq_true.1 kinds_all n (List.mem_range.2 h)
  simp only [hk, Bool.false_or, Bool.and_eq_true, decide_eq_true_eq] at this
  exact ⟨this.1.1, this.1.2, this.2⟩
theorem kind_is {n : Nat} (hk : isKindB n = true) : isKind (n : Int) := by
  unfold isKindB at hk
  simp only [List.contains_iff_mem, List.mem_cons, List.not_mem_nil, or_false] at hk
  unfold isKind
  omega
theorem zero_ok (k t : Int) : (zeroM k t).ok := ⟨zero_small k t, (fun _ h => nomatch h), by
  show InK .i64 0 ∧ InK .i64 0 ∧ InK .i64 0
  have : InK .i64 0 := show (-9223372036854775808 : Int) ≤ 0 ∧ (0 : Int) ≤ 9223372036854775807 from ⟨by omega, by omega⟩
  exact ⟨this, this, this⟩⟩
/-- The layout of a kind, both ways. -/
theorem kind_lay {n : Nat} (h : n < 256) : ∃ (l : List Lt) (b : Bool) (nm : Str), wire_layout (n : Int) = some (layB l) ∧ ref09_Fields (n : Int) = some (l.map Lt.num, b) ∧ msg_Name (n : Int) = some nm ∧ (nm == []) = (!b) ∧ l.Nodup ∧ l.length ≤ 100 := by
  cases hk : isKindB n with
  | false =>
    obtain ⟨h1, h2, h3⟩ := kind_out h hk
    exact ⟨[], false, [], h3, h1, h2, rfl, List.nodup_nil, by simp⟩
  | true =>
    obtain ⟨l, t, e1, e2, e3, e4, _, e6, _⟩ := kinds_ref (zeroM (n : Int) 0) (kind_is hk) (zero_ok _ _)
    obtain ⟨l', d1, d2, _⟩ := lay_any (n : Int)
    obtain rfl : l' = l := layB_inj (Option.some.inj (d1.symm.trans e4))
    exact ⟨l', true, t, e4, e6, e1, by rw [e2]; rfl, d2, e3⟩
end Go.Proofs.YtboplmpnjepdnaaGreat

/-
  Plain laws: reading a message is its reference: WireGets. No program in sight.
-/
namespace Go.Proofs.YtboplmpnjepdnaaGreat
open Go.Rt Go.RowKit

theorem win_tail {s : Str} {A z : Nat} : win s (A + 4) (z - 4) = (win s A z).drop 4 := by
  simp only [win, List.drop_take, List.drop_drop]
theorem get_both (s : Str) (x : Int) (hs : s.length ≤ 1000000) : ∃ v, wire_Get s x = some v ∧ ref09_Get s x = some v ∧ v.1.small := by
  unfold wire_Get ref09_Get
  by_cases ha : x < 0 ∨ x > s.length
  · exact ⟨_, bind_eq (get_none s x ha) rfl, cond_t (by simpa using ha) rfl, zero_small 0 0⟩
  obtain ⟨A, rfl⟩ : ∃ A : Nat, x = (A : Int) := ⟨x.toNat, by omega⟩
  have hA : A ≤ s.length := by omega
  have hA2 : (decide ((A : Int) < 0) || decide ((A : Int) > (s.length : Int))) = false := by simp; omega
  have e0 := get_eq s A 4 (by omega) (by omega) hA (by omega)
  have r0 := r02_at s A 4 (by omega) (by omega) hA (by omega)
  rw [show ((4 : Nat) : Int) = 4 from rfl] at e0 r0
  by_cases c1 : s.length - A < 4
  · rw [if_pos c1] at e0 r0
    exact ⟨_, bind_eq e0 rfl, cond_f hA2 (bind_eq r0 rfl), zero_small 0 0⟩
  rw [if_neg c1] at e0 r0
  by_cases c2 : leV (win s A 4) > 9223372036854775807
  · rw [if_pos c2] at e0 r0
    exact ⟨_, bind_eq e0 rfl, cond_f hA2 (bind_eq r0 rfl), zero_small 0 0⟩
  rw [if_neg c2] at e0 r0
  generalize hz : leV (win s A 4) = z at e0 r0 c2
  by_cases c3 : z > 8192
  · exact ⟨_, bind_eq e0 (cond_f rfl (cond_t (by simp; omega) rfl)), cond_f hA2 (bind_eq r0 (cond_f rfl (cond_t (by simp; omega) rfl))), zero_small 0 0⟩
  have h3 : decide ((z : Int) > 8192) = false := by simp; omega
  by_cases c4 : z < 7
  · exact ⟨_, bind_eq e0 (cond_f rfl (cond_f h3 (cond_t (by simp; omega) rfl))), cond_f hA2 (bind_eq r0 (cond_f rfl (cond_f h3 (cond_t (by simp; omega) rfl)))), zero_small 0 0⟩
  have h4 : decide ((z : Int) < 7) = false := by simp; omega
  have el : w64 ((s.length : Int) - (A : Int)) = ((s.length - A : Nat) : Int) := by rw [w64_eq ⟨by omega, by omega⟩]; omega
  by_cases c5 : z > s.length - A
  · exact ⟨_, bind_eq e0 (cond_f rfl (cond_f h3 (cond_f h4 (cond_t (by rw [el]; simp; omega) rfl)))), cond_f hA2 (bind_eq r0 (cond_f rfl (cond_f h3 (cond_f h4 (cond_t (by rw [el]; simp; omega) rfl))))), zero_small 0 0⟩
  have h5 : decide ((z : Int) > w64 ((s.length : Int) - (A : Int))) = false := by rw [el]; simp; omega
  have e1 := win_sub s A z (by omega) (by omega)
  have r1 := win_sub s (A + 4) (z - 4) (by omega) (by omega)
  have hA4 : w64 ((A : Int) + 4) = ((A + 4 : Nat) : Int) := by rw [w64_eq ⟨by omega, by omega⟩]; rfl
  have hAz : w64 (((A + 4 : Nat) : Int) + ((z - 4 : Nat) : Int)) = w64 ((A : Int) + (z : Int)) := by congr 1; omega
  rw [hAz, win_tail] at r1
  rw [← hA4] at r1
  have hy : (win s A z).length = z := win_len (by omega)
  generalize hy' : win s A z = y at e1 r1 hy
  obtain ⟨n1, m1⟩ := num_there (y := y) (a := 4) (n := 1) (by omega) (by omega) (by omega) (by omega)
  obtain ⟨n2, m2⟩ := num_there (y := y) (a := 4 + 1) (n := 2) (by omega) (by omega) (by omega) (by omega)
  have hk := leV_lt (win y 4 1)
  rw [win_len (by omega)] at hk
  generalize leV (win y 4 1) = kd at n1 m1 hk
  generalize leV (win y (4 + 1) 2) = tg at n2 m2
  obtain ⟨L, b, nm, k1, k2, k3, k4, k5, k6⟩ := kind_lay (n := kd) (by omega)
  have hB : BIG = 18446744073709551616 := rfl
  obtain ⟨mf, r', q', mf', g1, g2, g3, g4, g5⟩ := get_loops y (by omega) L k6 b L BIG 0 ⟨y, ((4 + 1 + 2 : Nat) : Int), true⟩ ⟨y.drop (4 + 1 + 2), false⟩ (zeroM (kd : Int) (tg : Int)) (zeroM (kd : Int) (tg : Int)) rfl (by omega) k5 (by omega) (.inl ⟨4 + 1 + 2, by omega, rfl, rfl⟩) (fun _ => rfl) (fun _ _ => rfl) (fun _ _ => rfl)
  obtain ⟨mg, rg, gg, _, kk, _, _, sm⟩ := gloop y (by omega) L k6 L BIG 0 ⟨y, ((4 + 1 + 2 : Nat) : Int), true⟩ (zeroM (kd : Int) (tg : Int)) rfl (by omega) k5 (by omega) ⟨rfl, fun _ => ⟨4 + 1 + 2, rfl, by omega⟩⟩
  obtain ⟨rfl, rfl⟩ := Prod.mk.inj (Option.some.inj (gg.symm.trans g1))
  have kn : msg_Name mg.Kind_ = some nm := by rw [kk]; exact k3
  have wire : ∀ {r}, (bif (((nm == []) || (!rg.ok_)) || (rg.at_ != (z : Int))) then some ((api_Msg.mk 0 0 0 0 0 0 0 [] [] [] [] [] (api_Qid.mk 0 0 0) 0 0 0 [] 0 0 [] (api_Dir.mk 0 0 (api_Qid.mk 0 0 0) 0 0 0 0 [] [] [] []) 0 0 0 []), (0 : Int), (2 : Int)) else Option.bind (msg_Check mg) fun (y11 : Int) =>
      (bif (y11 != 0) then some (((api_Msg.mk 0 0 0 0 0 0 0 [] [] [] [] [] (api_Qid.mk 0 0 0) 0 0 0 [] 0 0 [] (api_Dir.mk 0 0 (api_Qid.mk 0 0 0) 0 0 0 0 [] [] [] []) 0 0 0 []), 0, y11)) else some ((mg, (w64 ((A : Int) + (z : Int))), 0)))) = r → wire_Get s (A : Int) = r := fun {r} h => by
    unfold wire_Get
    exact bind_eq e0 (cond_f rfl (cond_f h3 (cond_f h4 (cond_f h5 (bind_eq e1 (bind_eq n1 (bind_eq n2 (bind_eq k1 (bind_eq g1 (bind_eq kn h))))))))))
  have refr : ∀ {r}, (bif (((!b) || q'.Bad_) || (!(q'.S_ == []))) then some ((api_Msg.mk 0 0 0 0 0 0 0 [] [] [] [] [] (api_Qid.mk 0 0 0) 0 0 0 [] 0 0 [] (api_Dir.mk 0 0 (api_Qid.mk 0 0 0) 0 0 0 0 [] [] [] []) 0 0 0 []), (0 : Int), (2 : Int)) else Option.bind (ref08_Check mf') fun (y11 : Int) =>
      (bif (y11 != 0) then some (((api_Msg.mk 0 0 0 0 0 0 0 [] [] [] [] [] (api_Qid.mk 0 0 0) 0 0 0 [] 0 0 [] (api_Dir.mk 0 0 (api_Qid.mk 0 0 0) 0 0 0 0 [] [] [] []) 0 0 0 []), 0, y11)) else some ((mf', (w64 ((A : Int) + (z : Int))), 0)))) = r → ref09_Get s (A : Int) = r := fun {r} h => by
    unfold ref09_Get
    exact cond_f hA2 (bind_eq r0 (cond_f rfl (cond_f h3 (cond_f h4 (cond_f h5 (bind_eq r1 (bind_eq m1 (bind_eq m2 (bind_eq k2 (bind_eq g2 h))))))))))
  suffices hgoal : ∃ v, wire_Get s (A : Int) = some v ∧ ref09_Get s (A : Int) = some v ∧ v.1.small by
    unfold wire_Get ref09_Get at hgoal
    exact hgoal
  rcases g3 with ⟨p, hp, rfl, rfl⟩ | ⟨p, S, rfl, rfl, _⟩
  · obtain ⟨_, rfl⟩ := g4 rfl
    have hq : (!(y.drop p == [])) = ((p : Int) != (z : Int)) := by
      rw [Bool.eq_iff_iff]
      simp only [Bool.not_eq_true', beq_eq_false_iff_ne, ne_eq, bne_iff_ne, List.drop_eq_nil_iff]
      omega
    cases c6 : ((!b) || ((p : Int) != (z : Int))) with
    | true => exact ⟨_, wire (cond_t (by rw [k4]; simpa using c6) rfl), refr (cond_t (by rw [hq]; simpa using c6) rfl), zero_small 0 0⟩
    | false =>
      have hsm : mg.small := sm rfl (zero_small _ _)
      have hmq := g5 rfl ⟨(zero_ok (kd : Int) (tg : Int)).qids, (zero_ok (kd : Int) (tg : Int)).qid⟩
      have hok : mg.ok := ⟨hsm, hmq.1, hmq.2⟩
      obtain ⟨c, e7⟩ := check_some mg hsm
      have e8 : ref08_Check mg = some c := (refcheck09 mg hok).trans e7
      have cw : (((nm == []) || (!true)) || ((p : Int) != (z : Int))) = false := by rw [k4]; simpa using c6
      have cr : (((!b) || false) || (!(y.drop p == []))) = false := by rw [hq]; simpa using c6
      by_cases hc : c = 0
      · subst hc
        exact ⟨_, wire (cond_f cw (bind_eq e7 (cond_f rfl rfl))), refr (cond_f cr (bind_eq e8 (cond_f rfl rfl))), hsm⟩
      · have hc' : (c != 0) = true := by simpa using hc
        exact ⟨_, wire (cond_f cw (bind_eq e7 (cond_t hc' rfl))), refr (cond_f cr (bind_eq e8 (cond_t hc' rfl))), zero_small 0 0⟩
  · exact ⟨_, wire (cond_t (by simp) rfl), refr (cond_t (by simp) rfl), zero_small 0 0⟩
end Go.Proofs.YtboplmpnjepdnaaGreat

/-
  The plain laws of WireGets and WireSplits.
-/
namespace Go.Proofs.YtboplmpnjepdnaaGreat
open Go.Rt Go.RowKit

theorem msgs_same (l : List api_Msg) (hl : l.length ≤ 1000000) (h : ∀ m ∈ l, m.small) : law09_same l l = some true := by
  have hB : BIG = 18446744073709551616 := rfl
  unfold law09_same
  refine cond_f (by simp) (bind_eq (loop_all3 l (fun _ => none) (by omega) (fun i hi => ?_) ?_) ?_)
  · unfold law09_same_L1
    have hm := h _ (List.getElem_mem hi)
    refine cond_t (by simp; omega) (bind_eq (getI_lt hi) (bind_eq (getI_lt hi) (bind_eq (msg_same _ hm.1 hm.2.2.1) (cond_f rfl ?_))))
    rw [w64_eq (n := (i : Int) + 1) ⟨by omega, by omega⟩]; rfl
  · unfold law09_same_L1
    exact cond_f (by simp) rfl
  · have e : ∀ {α : Type} (l : List α), l.findSome? (fun _ => (none : Option Bool)) = none := by intro α l; simp
    rw [e]
theorem WireGets_true (x0 : Str) (x1 : Int) : law09_WireGets x0 x1 = some true := by
  unfold law09_WireGets
  cases hc : decide ((x0.length : Int) > 20000) with
  | true => exact cond_t rfl (bind_eq alive09 rfl)
  | false =>
    simp only [decide_eq_false_iff_not] at hc
    obtain ⟨v, h1, h2, hm⟩ := get_both x0 x1 (by omega)
    exact cond_f rfl (bind_eq h1 (bind_eq h2 (bind_eq (msg_same _ hm.1 hm.2.2.1) (bind_eq (a := true) (cond_t (by simp) (bind_eq alive09 rfl)) rfl))))
theorem body_both (o : Int) (x : Str) (acc : List api_Msg) (hs : x.length ≤ 1000000) (ha : acc.length ≤ 1000000) : ref09_Split_L1 o (x, acc) = wire_Split_L1 o (x, acc) := by
  by_cases h4 : x.length < 4
  · have hd : decide ((x.length : Int) ≥ 4) = false := by simp; omega
    have a1 : ref09_Split_L1 o (x, acc) = some (.done (.fall (x, acc))) := by unfold ref09_Split_L1; exact cond_f hd rfl
    have a2 : wire_Split_L1 o (x, acc) = some (.done (.fall (x, acc))) := by unfold wire_Split_L1; exact cond_f hd rfl
    rw [a1, a2]
  · have hd : decide ((x.length : Int) ≥ 4) = true := by simp; omega
    have e1 := oct0 x (by omega) hs
    have hlt := four_lt x
    have e2 := r02_at x 0 4 (by omega) (by omega) (by omega) (by omega)
    rw [if_neg (by omega), if_neg (by omega), Nat.zero_add] at e2
    obtain ⟨⟨m, n, e⟩, g1, g2, _⟩ := get_both x 0 hs
    unfold ref09_Split_L1 wire_Split_L1
    refine (cond_t hd (bind_eq e2 rfl)).trans (cond_t hd (bind_eq e1 ?_)).symm
    refine Eq.symm ?_
    generalize leV (win x 0 4) = z at *
    show (bif decide ((z : Int) > o) || decide ((z : Int) < 7) then _ else _) = (bif ((false || decide ((z : Int) > o)) || decide ((z : Int) < 7)) then _ else _)
    rw [Bool.false_or]
    cases h7 : decide ((z : Int) > o) || decide ((z : Int) < 7) with
    | true => rfl
    | false =>
      show (bif decide ((z : Int) > (x.length : Int)) then _ else _) = (bif decide ((x.length : Int) < (z : Int)) then _ else _)
      cases hz : decide ((x.length : Int) < (z : Int)) with
      | true => rfl
      | false =>
        show Option.bind (ref09_Get x 0) _ = Option.bind (wire_Get x 0) _
        rw [g1, g2]
        show (bif e != 0 then _ else _) = (bif e != 0 then _ else _)
        cases e != 0 with
        | true => rfl
        | false =>
          show Option.bind (room 424 acc [m]) _ = Option.bind (subI x n (x.length : Int)) _
          rw [room_eq (by simp; omega) (by simp; omega)]
          cases subI x n (x.length : Int) <;> rfl
theorem split_loops (o : Int) (k : Nat) : ∀ (fuel : Nat) (x : Str) (acc : List api_Msg), x.length < k → x.length ≤ 1000000 → acc.length + x.length ≤ 1000000 → loopF (ref09_Split_L1 o) fuel (x, acc) = loopF (wire_Split_L1 o) fuel (x, acc) := by
  induction k with
  | zero => intro fuel x acc h; omega
  | succ k ih =>
    intro fuel x acc h hs ha
    cases fuel with
    | zero => rfl
    | succ fuel =>
      have hb := split_body o x acc hs (by omega)
      have hr := (body_both o x acc hs (by omega)).trans hb
      cases h1 : one o x with
      | stop => rw [h1] at hb hr; rw [loop_done hb, loop_done hr]
      | bad e => rw [h1] at hb hr; rw [loop_done hb, loop_done hr]
      | got m z =>
        rw [h1] at hb hr
        obtain ⟨a, b, _⟩ := one_got hs h1
        rw [loop_next hb rfl, loop_next hr rfl]
        exact ih fuel _ _ (by simp; omega) (by simp; omega) (by simp; omega)
theorem split_both (x : Str) (n : Int) (hs : x.length ≤ 1000000) : ref09_Split x n = wire_Split x n := by
  unfold ref09_Split wire_Split
  cases hc : ((n == 0) || (decide (n > 8192))) with
  | true =>
    show Option.bind (loopF (ref09_Split_L1 8192) BIG (x, [])) _ = Option.bind (loopF (wire_Split_L1 8192) BIG (x, [])) _
    rw [split_loops 8192 (x.length + 1) BIG x [] (by omega) hs (by simpa using hs)]
  | false =>
    show Option.bind (loopF (ref09_Split_L1 n) BIG (x, [])) _ = Option.bind (loopF (wire_Split_L1 n) BIG (x, [])) _
    rw [split_loops n (x.length + 1) BIG x [] (by omega) hs (by simpa using hs)]
theorem WireSplits_true (x0 : Str) (x1 : Int) : law09_WireSplits x0 x1 = some true := by
  unfold law09_WireSplits
  cases hc : decide ((x0.length : Int) > 20000) with
  | true => exact cond_t rfl (bind_eq alive09 rfl)
  | false =>
    simp only [decide_eq_false_iff_not] at hc
    obtain ⟨v, h1, h2⟩ : ∃ v, wire_Split x0 x1 = some v ∧ law09_same v.1 v.1 = some true := by
      rcases split_all x0 x1 (by omega) with ⟨ms, r, h⟩ | ⟨e, e1, _⟩
      · obtain ⟨l1, hsm⟩ := h.len (by omega)
        exact ⟨_, split_spl (by omega) h, msgs_same ms (by omega) hsm⟩
      · exact ⟨_, e1, msgs_same [] (by simp) (fun _ h => nomatch h)⟩
    exact cond_f rfl (bind_eq h1 (bind_eq ((split_both x0 x1 (by omega)).trans h1) (bind_eq h2 (bind_eq (a := true) (cond_t (by simp) (bind_eq alive09 rfl)) rfl))))
theorem WireGets_fit (x0 : Str) (x1 : Int) (_ : Fit te .str x0) (_ : Fit te (.int .i64) x1) : law09_WireGets x0 x1 = some true := WireGets_true x0 x1
theorem WireSplits_fit (x0 : Str) (x1 : Int) (_ : Fit te .str x0) (_ : Fit te (.int .i64) x1) : law09_WireSplits x0 x1 = some true := WireSplits_true x0 x1
end Go.Proofs.YtboplmpnjepdnaaGreat
