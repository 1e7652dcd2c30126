/-
  Plain laws: stat.Get and stat.All are their references. No program in sight.
-/
import Derived.Test.YtglcohgjcjaamaaPg
namespace Go.Proofs.Ytglcohgjcjaamaa
open Go.Rt Go.RowKit

def zeroDir : api_Dir := api_Dir.mk 0 0 (api_Qid.mk 0 0 0) 0 0 0 0 [] [] [] []
theorem num_small (s : Str) (h : s.length ≤ 4) : numR s = numF s := by
  have hl := leV_lt s
  have hp : 2 ^ (8 * s.length) ≤ 2 ^ 32 := Nat.pow_le_pow_right (by omega) (by omega)
  unfold numR numF
  split
  · rfl
  · rw [if_neg (by omega), if_neg (by omega)]
theorem num_any (s : Str) : numR s = numF s ∨ (numR s = -2 ∧ numF s = 9223372036854775807) := by
  unfold numR numF
  split
  · exact .inl rfl
  · split
    · exact .inr ⟨rfl, rfl⟩
    · exact .inl rfl
theorem numR_in (s : Str) : InK .i64 (numR s) := by
  show -9223372036854775808 ≤ numR s ∧ numR s ≤ 9223372036854775807
  unfold numR
  split
  · omega
  · split <;> omega
theorem dir_check (s t1 t2 t3 t4 : Str) (h : 47 ≤ s.length) : checkR (dirR s t1 t2 t3 t4) = checkR (dirF s t1 t2 t3 t4) ∧ (checkR (dirF s t1 t2 t3 t4) = 0 → dirR s t1 t2 t3 t4 = dirF s t1 t2 t3 t4) := by
  have q1 := num_small (win s 0 2) (by rw [win_len (by omega)]; omega)
  have q2 := num_small (win s 2 4) (by rw [win_len (by omega)]; omega)
  have q3 := num_small (win s 6 1) (by rw [win_len (by omega)]; omega)
  have q4 := num_small (win s 7 4) (by rw [win_len (by omega)]; omega)
  have q6 := num_small (win s 19 4) (by rw [win_len (by omega)]; omega)
  have bad : ∀ x : api_Dir, okNums x = false → checkR x = 5 := fun x hx => by unfold checkR; rw [hx]; rfl
  have i1 : okIn (-2) 1099511627776 = false := rfl
  have i2 : okIn 9223372036854775807 1099511627776 = false := rfl
  have i3 : okIn (-2) 9007199254740991 = false := rfl
  have i4 : okIn 9223372036854775807 9007199254740991 = false := rfl
  have fin : okNums (dirR s t1 t2 t3 t4) = false → okNums (dirF s t1 t2 t3 t4) = false → checkR (dirR s t1 t2 t3 t4) = checkR (dirF s t1 t2 t3 t4) ∧ (checkR (dirF s t1 t2 t3 t4) = 0 → dirR s t1 t2 t3 t4 = dirF s t1 t2 t3 t4) := fun h1 h2 => by
    rw [bad _ h1, bad _ h2]
    exact ⟨rfl, fun hh => by omega⟩
  rcases num_any (win s 11 8) with q5 | ⟨q5, q5'⟩
  · rcases num_any (win s 23 8) with q7 | ⟨q7, q7'⟩
    · rcases num_any (win s 31 8) with q8 | ⟨q8, q8'⟩
      · rcases num_any (win s 39 8) with q9 | ⟨q9, q9'⟩
        · have e : dirR s t1 t2 t3 t4 = dirF s t1 t2 t3 t4 := by unfold dirR dirF; rw [q1, q2, q3, q4, q5, q6, q7, q8, q9]
          rw [e]
          exact ⟨rfl, fun _ => rfl⟩
        · exact fin (by simp [okNums, dirR, q9, i3]) (by simp [okNums, dirF, q9', i4])
      · exact fin (by simp [okNums, dirR, q8, i1]) (by simp [okNums, dirF, q8', i2])
    · exact fin (by simp [okNums, dirR, q7, i1]) (by simp [okNums, dirF, q7', i2])
  · exact fin (by simp [okNums, dirR, q5, i1]) (by simp [okNums, dirF, q5', i2])
/-- What Get returns. -/
def getR (s : Str) (a : Nat) : api_Dir × Int × Int :=
  if s.length < a + 2 then (zeroDir, 0, 3) else
  if s.length < a + 2 + leV (win s a 2) then (zeroDir, 0, 3) else
  if leV (win s a 2) < 47 then (zeroDir, 0, 2) else
  match take4 (win s (a + 2) (leV (win s a 2))) 47 with
  | none => (zeroDir, 0, 2)
  | some (t1, t2, t3, t4, p) => if p = leV (win s a 2) then
      if checkR (dirF (win s (a + 2) (leV (win s a 2))) t1 t2 t3 t4) = 0 then (dirF (win s (a + 2) (leV (win s a 2))) t1 t2 t3 t4, ((a + 2 + leV (win s a 2) : Nat) : Int), 0) else (zeroDir, 0, checkR (dirF (win s (a + 2) (leV (win s a 2))) t1 t2 t3 t4))
    else (zeroDir, 0, 2)
theorem take4_le {s t1 t2 t3 t4 : Str} {a p : Nat} (h : take4 s a = some (t1, t2, t3, t4, p)) : p ≤ s.length ∧ t1.length ≤ s.length ∧ t2.length ≤ s.length ∧ t3.length ≤ s.length ∧ t4.length ≤ s.length ∧ a + 8 ≤ p := by
  unfold take4 at h
  cases h1 : takeT s a with
  | none => rw [h1] at h; cases h
  | some x1 =>
    obtain ⟨u1, p1⟩ := x1
    rw [h1] at h
    simp only at h
    cases h2 : takeT s p1 with
    | none => rw [h2] at h; cases h
    | some x2 =>
      obtain ⟨u2, p2⟩ := x2
      rw [h2] at h
      simp only at h
      cases h3 : takeT s p2 with
      | none => rw [h3] at h; cases h
      | some x3 =>
        obtain ⟨u3, p3⟩ := x3
        rw [h3] at h
        simp only at h
        cases h4 : takeT s p3 with
        | none => rw [h4] at h; cases h
        | some x4 =>
          obtain ⟨u4, p4⟩ := x4
          rw [h4] at h
          simp only [Option.some.injEq, Prod.mk.injEq] at h
          obtain ⟨rfl, rfl, rfl, rfl, rfl⟩ := h
          have g1 := takeT_le h1
          have g2 := takeT_le h2
          have g3 := takeT_le h3
          have g4 := takeT_le h4
          omega
theorem dirR_ok (s t1 t2 t3 t4 : Str) (h1 : t1.length ≤ 1000000) (h2 : t2.length ≤ 1000000) (h3 : t3.length ≤ 1000000) (h4 : t4.length ≤ 1000000) : (dirR s t1 t2 t3 t4).ok :=
  ⟨numR_in _, numR_in _, ⟨numR_in _, numR_in _, numR_in _⟩, numR_in _, numR_in _, numR_in _, numR_in _, by show t1.length ≤ _; omega, by show t2.length ≤ _; omega, by show t3.length ≤ _; omega, by show t4.length ≤ _; omega⟩
theorem get_out (s : Str) (x : Int) (h : x < 0 ∨ x > s.length) : stat_Get s x = some (zeroDir, 0, 1) ∧ ref07_Get s x = some (zeroDir, 0, 1) := by
  constructor
  · unfold stat_Get
    have hg : octet_Get s x 2 = some (0, 0, 1) := by
      unfold octet_Get
      refine cond_t ?_ rfl
      simp only [Bool.or_eq_true, decide_eq_true_eq]
      omega
    refine bind_eq hg ?_
    exact cond_t rfl rfl
  · unfold ref07_Get
    refine cond_t ?_ rfl
    simp only [Bool.or_eq_true, decide_eq_true_eq]
    omega
theorem stat_get_eq (s : Str) (a : Nat) (h : a ≤ s.length) (hs : s.length ≤ 1000000) : stat_Get s (a : Int) = some (getR s a) := by
  unfold stat_Get getR
  have hg := get_eq s a 2 (by omega) (by omega) h (by omega)
  rw [show ((2 : Nat) : Int) = 2 from rfl] at hg
  by_cases h2 : s.length < a + 2
  · rw [if_pos (by omega)] at hg
    rw [if_pos h2]
    refine bind_eq hg ?_
    exact cond_t rfl rfl
  · have hv := leV_two s a (by omega)
    rw [if_neg (by omega), if_neg (by omega)] at hg
    rw [if_neg h2]
    refine bind_eq hg ?_
    refine cond_f rfl ?_
    have ew : w64 ((s.length : Int) - ((a + 2 : Nat) : Int)) = ((s.length - (a + 2) : Nat) : Int) := by rw [w64_eq ⟨by omega, by omega⟩]; omega
    have ex : w64 (((a + 2 : Nat) : Int) + (leV (win s a 2) : Int)) = ((a + 2 + leV (win s a 2) : Nat) : Int) := by rw [w64_eq ⟨by omega, by omega⟩]; omega
    by_cases h3 : s.length < a + 2 + leV (win s a 2)
    · rw [if_pos h3]
      refine cond_t ?_ rfl
      show decide (w64 ((s.length : Int) - ((a + 2 : Nat) : Int)) < (leV (win s a 2) : Int)) = true
      rw [ew]; simp only [decide_eq_true_eq]; omega
    · rw [if_neg h3]
      refine cond_f ?_ ?_
      · show decide (w64 ((s.length : Int) - ((a + 2 : Nat) : Int)) < (leV (win s a 2) : Int)) = false
        rw [ew]; simp only [decide_eq_false_iff_not]; omega
      refine bind_eq (win_sub s (a + 2) (leV (win s a 2)) (by omega) (by omega)) ?_
      have hwl : (win s (a + 2) (leV (win s a 2))).length = leV (win s a 2) := win_len (by omega)
      generalize leV (win s a 2) = n at hwl hv h3 ex ⊢
      generalize win s (a + 2) n = y at hwl ⊢
      by_cases h47 : n < 47
      · rw [if_pos h47]
        obtain ⟨d, at_, hr⟩ := read_short y (by omega)
        refine bind_eq hr ?_
        exact cond_t rfl rfl
      · rw [if_neg h47]
        have hr := read_long y (by omega) (by omega)
        cases h4 : take4 y 47 with
        | none =>
          rw [h4] at hr
          obtain ⟨d, at_, hr⟩ := hr
          refine bind_eq hr ?_
          exact cond_t rfl rfl
        | some x =>
          obtain ⟨t1, t2, t3, t4, p⟩ := x
          rw [h4] at hr
          refine bind_eq hr ?_
          simp only
          by_cases hp : p = n
          · rw [if_pos hp]
            refine cond_f (by simp [hp]) ?_
            have hle := take4_le h4
            have hB : BIG = 18446744073709551616 := rfl
            refine bind_eq (check_eq _ (dirR_ok y t1 t2 t3 t4 (by omega) (by omega) (by omega) (by omega)) (by show t1.length ≤ _; omega)) ?_
            have hd := dir_check y t1 t2 t3 t4 (by omega)
            rw [hd.1]
            by_cases hc : checkR (dirF y t1 t2 t3 t4) = 0
            · rw [if_pos hc]
              refine cond_f (by simp [hc]) ?_
              show some (dirR y t1 t2 t3 t4, w64 (((a + 2 : Nat) : Int) + (n : Int)), (0 : Int)) = _
              rw [hd.2 hc, ex]
            · rw [if_neg hc]
              exact cond_t (by simp [hc]) rfl
          · rw [if_neg hp]
            refine cond_t ?_ rfl
            simp only [Bool.or_eq_true, bne_iff_ne]
            right
            intro hh
            apply hp
            omega
theorem ref_get_eq (s : Str) (a : Nat) (h : a ≤ s.length) (hs : s.length ≤ 1000000) : ref07_Get s (a : Int) = some (getR s a) := by
  unfold ref07_Get getR
  refine cond_f (by simp only [Bool.or_eq_false_iff, decide_eq_false_iff_not]; omega) ?_
  have e1 : w64 ((s.length : Int) - (a : Int)) = ((s.length - a : Nat) : Int) := by rw [w64_eq ⟨by omega, by omega⟩]; omega
  rw [e1]
  by_cases h2 : s.length < a + 2
  · rw [if_pos h2]
    exact cond_t (by simp only [decide_eq_true_eq]; omega) rfl
  · rw [if_neg h2]
    refine cond_f (by simp only [decide_eq_false_iff_not]; omega) ?_
    have b1 := byteI_lt (s := s) (i := a) (by omega)
    have b2 := byteI_lt (s := s) (i := a + 1) (by omega)
    have hv := two_bytes s a (by omega)
    have hv2 := leV_two s a (by omega)
    generalize s[a]'(by omega) = y1 at b1 hv
    generalize s[a + 1]'(by omega) = y2 at b2 hv
    have g1 := y1.toNat_lt
    have g2 := y2.toNat_lt
    have ea : w64 ((a : Int) + 1) = ((a + 1 : Nat) : Int) := by rw [w64_eq ⟨by omega, by omega⟩]; omega
    have en : w64 (IntKind.i64.wrap (y1.toNat : Int) + w64 (256 * IntKind.i64.wrap (y2.toNat : Int))) = (leV (win s a 2) : Int) := by
      rw [wi64_eq (n := (y1.toNat : Int)) ⟨by omega, by omega⟩, wi64_eq (n := (y2.toNat : Int)) ⟨by omega, by omega⟩, w64_eq (n := 256 * (y2.toNat : Int)) ⟨by omega, by omega⟩, w64_eq ⟨by omega, by omega⟩, hv]
      omega
    refine bind_eq b1 ?_
    rw [ea]
    refine bind_eq b2 ?_
    rw [en]
    have e3 : w64 (((s.length - a : Nat) : Int) - 2) = ((s.length - a - 2 : Nat) : Int) := by rw [w64_eq ⟨by omega, by omega⟩]; omega
    rw [e3]
    by_cases h3 : s.length < a + 2 + leV (win s a 2)
    · rw [if_pos h3]
      exact cond_t (by simp only [decide_eq_true_eq]; omega) rfl
    · rw [if_neg h3]
      refine cond_f (by simp only [decide_eq_false_iff_not]; omega) ?_
      have e4 : w64 ((a : Int) + 2) = ((a + 2 : Nat) : Int) := by rw [w64_eq ⟨by omega, by omega⟩]; omega
      have ex : w64 (((a + 2 : Nat) : Int) + (leV (win s a 2) : Int)) = ((a + 2 + leV (win s a 2) : Nat) : Int) := by rw [w64_eq ⟨by omega, by omega⟩]; omega
      rw [e4]
      refine bind_eq (win_sub s (a + 2) (leV (win s a 2)) (by omega) (by omega)) ?_
      have hwl : (win s (a + 2) (leV (win s a 2))).length = leV (win s a 2) := win_len (by omega)
      rw [ex]
      generalize leV (win s a 2) = n at hwl hv2 h3 ⊢
      generalize win s (a + 2) n = y at hwl ⊢
      by_cases h47 : n < 47
      · rw [if_pos h47]
        exact cond_t (by simp only [decide_eq_true_eq]; omega) rfl
      · rw [if_neg h47]
        refine cond_f (by simp only [decide_eq_false_iff_not]; omega) ?_
        have hsub : subI y 47 (y.length : Int) = some (y.drop 47) := by
          rw [subI_eq (by omega) (by omega) (by omega)]
          simp
        refine bind_eq hsub ?_
        have ht := texts_eq (y.drop 47) (by rw [List.length_drop]; omega)
        rw [take4_shift y 47 (by omega)] at ht
        cases h4 : take4 y 47 with
        | none =>
          rw [h4] at ht
          obtain ⟨arr, ht⟩ := ht
          refine bind_eq ht ?_
          exact cond_t rfl rfl
        | some x =>
          obtain ⟨t1, t2, t3, t4, p⟩ := x
          rw [h4] at ht
          simp only [Option.map_some] at ht
          refine bind_eq ht ?_
          simp only
          have hle := take4_le h4
          by_cases hp : p = n
          · rw [if_pos hp]
            refine cond_f (by rw [Bool.not_eq_false', beq_iff_eq, List.length_drop]; omega) ?_
            have nm : ∀ (q w : Nat), 1 ≤ w → w ≤ 8 → q + w ≤ 47 → ref07_number y (q : Int) (w : Int) = some (numF (win y q w)) := fun q w hw1 hw8 hq => ref_number_eq y q w hw1 hw8 (by omega) (by omega)
            refine bind_eq (nm 6 1 (by omega) (by omega) (by omega)) ?_
            refine bind_eq (nm 7 4 (by omega) (by omega) (by omega)) ?_
            refine bind_eq (nm 11 8 (by omega) (by omega) (by omega)) ?_
            refine bind_eq (nm 0 2 (by omega) (by omega) (by omega)) ?_
            refine bind_eq (nm 2 4 (by omega) (by omega) (by omega)) ?_
            refine bind_eq (nm 19 4 (by omega) (by omega) (by omega)) ?_
            refine bind_eq (nm 23 8 (by omega) (by omega) (by omega)) ?_
            refine bind_eq (nm 31 8 (by omega) (by omega) (by omega)) ?_
            refine bind_eq (nm 39 8 (by omega) (by omega) (by omega)) ?_
            have hB : BIG = 18446744073709551616 := rfl
            refine bind_eq (refcheck_eq (dirF y t1 t2 t3 t4) (by show t1.length ≤ _; omega)) ?_
            by_cases hc : checkR (dirF y t1 t2 t3 t4) = 0
            · rw [if_pos hc]
              exact cond_f (by simp [hc]) rfl
            · rw [if_neg hc]
              exact cond_t (by simp [hc]) rfl
          · rw [if_neg hp]
            refine cond_t ?_ rfl
            rw [Bool.not_eq_true', beq_eq_false_iff_ne, List.length_drop]
            omega
theorem StatGets_true (x0 : Str) (x1 : Int) (_ : x0.length ≤ 9223372036854775807) (_ : InK .i64 x1) : law07_StatGets x0 x1 = some true := by
  unfold law07_StatGets
  by_cases hl : x0.length > 5000
  · exact cond_t (by simp only [decide_eq_true_eq]; omega) (bind_eq awake07 rfl)
  · refine cond_f (by simp only [decide_eq_false_iff_not]; omega) ?_
    have key : ∃ r, stat_Get x0 x1 = some r ∧ ref07_Get x0 x1 = some r := by
      by_cases ho : x1 < 0 ∨ x1 > x0.length
      · exact ⟨_, get_out x0 x1 ho⟩
      · obtain ⟨a, rfl⟩ : ∃ a : Nat, x1 = (a : Int) := ⟨x1.toNat, by omega⟩
        exact ⟨_, stat_get_eq x0 a (by omega) (by omega), ref_get_eq x0 a (by omega) (by omega)⟩
    obtain ⟨r, h1, h2⟩ := key
    refine bind_eq h1 ?_
    refine bind_eq h2 ?_
    simp [awake07]
end Go.Proofs.Ytglcohgjcjaamaa
