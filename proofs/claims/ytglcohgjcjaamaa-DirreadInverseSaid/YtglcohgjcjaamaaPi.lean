/-
  Plain laws: stat.All is its reference; what Put writes is read back by Get and All. No program in sight.
-/
import Derived.Test.YtglcohgjcjaamaaPh
import Derived.Test.YtglcohgjcjaamaaPe
namespace Go.Proofs.Ytglcohgjcjaamaa
open Go.Rt Go.RowKit

/-! ### All -/
theorem getR_step (s : Str) (a : Nat) (h : (getR s a).2.2 = 0) : ∃ p : Nat, (getR s a).2.1 = (p : Int) ∧ a + 49 ≤ p ∧ p ≤ s.length := by
  unfold getR at h ⊢
  split at h
  · simp at h
  · rename_i h1
    rw [if_neg h1]
    split at h
    · simp at h
    · rename_i h2
      rw [if_neg h2]
      split at h
      · simp at h
      · rename_i h3
        rw [if_neg h3]
        cases h4 : take4 (win s (a + 2) (leV (win s a 2))) 47 with
        | none => rw [h4] at h; simp at h
        | some x =>
          obtain ⟨t1, t2, t3, t4, p⟩ := x
          rw [h4] at h
          simp only at h ⊢
          by_cases h5 : p = leV (win s a 2)
          · rw [if_pos h5] at h ⊢
            by_cases h6 : checkR (dirF (win s (a + 2) (leV (win s a 2))) t1 t2 t3 t4) = 0
            · rw [if_pos h6]
              exact ⟨a + 2 + leV (win s a 2), rfl, by omega, by omega⟩
            · rw [if_neg h6] at h
              exact absurd h h6
          · rw [if_neg h5] at h
            simp at h
/-- What All returns, from an offset on, with so much to read at the most. -/
def allR (s : Str) : Nat → Nat → List api_Dir → List api_Dir × Int
  | 0, _, _ => ([], 0)
  | k + 1, a, acc => if a < s.length then (if (getR s a).2.2 = 0 then allR s k (getR s a).2.1.toNat (acc ++ [(getR s a).1]) else ([], (getR s a).2.2)) else (acc, 0)
theorem all_loop (get : Str → Int → Option (api_Dir × Int × Int)) (s : Str) (hs : s.length ≤ 100000) (hg : ∀ a : Nat, a ≤ s.length → get s (a : Int) = some (getR s a)) (body : List api_Dir × Int → Option (Step (List api_Dir × Int) (Out (List api_Dir) (List api_Dir × Int))))
    (hb : ∀ acc a, body (acc, a) = bif decide (a < (s.length : Int)) then Option.bind (get s a) fun y1 => (bif (y1.2.2 != 0) then some (.done (.ret ([], y1.2.2))) else Option.bind (room 136 acc [y1.1]) fun y2 => some (.next (y2, y1.2.1))) else some (.done (.fall acc))) :
    ∀ (k a : Nat) (acc : List api_Dir) (n : Nat), s.length < a + k → k < n → a ≤ s.length → acc.length ≤ a →
      ∃ o, loopF body n (acc, (a : Int)) = some o ∧ (match o with | .ret r => r | .fall l => (l, 0)) = allR s k a acc
  | 0, a, acc, n, h1, h2, h3, _ => by omega
  | k + 1, a, acc, n, h1, h2, h3, h4 => by
    cases n with
    | zero => omega
    | succ n =>
      unfold allR
      by_cases ha : a < s.length
      · rw [if_pos ha]
        by_cases hc : (getR s a).2.2 = 0
        · rw [if_pos hc]
          obtain ⟨p, hp, hp1, hp2⟩ := getR_step s a hc
          have hbody : body (acc, (a : Int)) = some (.next (acc ++ [(getR s a).1], (p : Int))) := by
            rw [hb]
            refine cond_t (by simp only [decide_eq_true_eq]; omega) ?_
            refine bind_eq (hg a h3) ?_
            refine cond_f (by simp [hc]) ?_
            refine bind_eq (room_eq (by simp; omega) (by simp; omega)) ?_
            rw [hp]
          obtain ⟨o, ho, hr⟩ := all_loop get s hs hg body hb k p (acc ++ [(getR s a).1]) n (by omega) (by omega) hp2 (by simp; omega)
          refine ⟨o, loop_next hbody ho, ?_⟩
          rw [hr, hp, Int.toNat_natCast]
        · rw [if_neg hc]
          have hbody : body (acc, (a : Int)) = some (.done (.ret ([], (getR s a).2.2))) := by
            rw [hb]
            refine cond_t (by simp only [decide_eq_true_eq]; omega) ?_
            refine bind_eq (hg a h3) ?_
            exact cond_t (by simp [hc]) rfl
          exact ⟨_, loop_done hbody, rfl⟩
      · rw [if_neg ha]
        have hbody : body (acc, (a : Int)) = some (.done (.fall acc)) := by
          rw [hb]
          exact cond_f (by simp only [decide_eq_false_iff_not]; omega) rfl
        exact ⟨_, loop_done hbody, rfl⟩
theorem stat_all_eq (s : Str) (hs : s.length ≤ 100000) : stat_All s = some (allR s (s.length + 1) 0 []) := by
  have hB : BIG = 18446744073709551616 := rfl
  obtain ⟨o, ho, hr⟩ := all_loop stat_Get s hs (fun a ha => stat_get_eq s a ha (by omega)) (stat_All_L1 s) (fun acc a => rfl) (s.length + 1) 0 [] BIG (by omega) (by omega) (by omega) (by simp)
  unfold stat_All
  refine bind_eq ho ?_
  rw [← hr]
  cases o <;> rfl
theorem ref_all_eq (s : Str) (hs : s.length ≤ 100000) : ref07_All s = some (allR s (s.length + 1) 0 []) := by
  have hB : BIG = 18446744073709551616 := rfl
  obtain ⟨o, ho, hr⟩ := all_loop ref07_Get s hs (fun a ha => ref_get_eq s a ha (by omega)) (ref07_All_L1 s) (fun acc a => rfl) (s.length + 1) 0 [] BIG (by omega) (by omega) (by omega) (by simp)
  unfold ref07_All
  refine bind_eq ho ?_
  rw [← hr]
  cases o <;> rfl
theorem equal_same (xs : List api_Dir) (h : xs.length ≤ 9223372036854775807) : law07_equal xs xs = some true := by
  have hB : BIG = 18446744073709551616 := rfl
  unfold law07_equal
  refine cond_f (by simp) ?_
  refine bind_eq (loop_all xs (fun _ => true) false (by omega) (fun i hi => ?_) ?_) ?_
  · unfold law07_equal_L1
    refine cond_t (by simp only [decide_eq_true_eq]; omega) ?_
    refine bind_eq (getI_lt hi) ?_
    refine bind_eq (getI_lt hi) ?_
    refine cond_f (by simp) ?_
    rw [w64_eq (n := (i : Int) + 1) ⟨by omega, by omega⟩]
    rfl
  · unfold law07_equal_L1
    exact cond_f (by simp) rfl
  · simp
theorem allR_len (s : Str) (hs : s.length ≤ 100000) : ∀ (k a : Nat) (acc : List api_Dir), acc.length ≤ a → a ≤ s.length → (allR s k a acc).1.length ≤ s.length
  | 0, a, acc, _, _ => by simp [allR]
  | k + 1, a, acc, h, ha => by
    unfold allR
    split
    · split
      · rename_i hc
        obtain ⟨p, hp, hp1, hp2⟩ := getR_step s a hc
        rw [hp, Int.toNat_natCast]
        exact allR_len s hs k p _ (by simp; omega) hp2
      · simp
    · show acc.length ≤ _
      omega
theorem StatLists_true (x0 : Str) (_ : x0.length ≤ 9223372036854775807) : law07_StatLists x0 = some true := by
  have hB : BIG = 18446744073709551616 := rfl
  unfold law07_StatLists
  by_cases hl : x0.length > 5000
  · exact cond_t (by simp only [decide_eq_true_eq]; omega) (bind_eq awake07 rfl)
  · refine cond_f (by simp only [decide_eq_false_iff_not]; omega) ?_
    refine bind_eq (stat_all_eq x0 (by omega)) ?_
    refine bind_eq (ref_all_eq x0 (by omega)) ?_
    have hlen := allR_len x0 (by omega) (x0.length + 1) 0 [] (by simp) (by omega)
    refine bind_eq (equal_same _ (by omega)) ?_
    refine bind_eq (a := true) (cond_t (by simp) (bind_eq awake07 rfl)) rfl

/-! ### Put, read back -/
theorem leV_leL : ∀ (w : Nat) (n : Nat), n < 2 ^ (8 * w) → leV (leB (n : Int) w) = n := by
  have key : ∀ (l : Str) (b : UInt8), leV (l ++ [b]) = leV l + 2 ^ (8 * l.length) * b.toNat := by
    intro l
    induction l with
    | nil => intro b; simp [leV]
    | cons a l ih =>
      intro b
      simp only [List.cons_append, leV, ih, List.length_cons]
      rw [show 8 * (l.length + 1) = 8 * l.length + 8 by omega, Nat.pow_add, Nat.mul_add]
      have : 256 * (2 ^ (8 * l.length) * b.toNat) = 2 ^ (8 * l.length) * 2 ^ 8 * b.toNat := by
        rw [show (2 : Nat) ^ 8 = 256 from rfl, Nat.mul_comm (2 ^ (8 * l.length)) 256, Nat.mul_assoc]
      omega
  have gen : ∀ (w n : Nat), leV (leB (n : Int) w) = n % 2 ^ (8 * w) := by
    intro w
    induction w with
    | zero => intro n; simp [leB, leL, bytesS, leV, Nat.mod_one]
    | succ w ih =>
      intro n
      have hb : (byteAt (n : Int) w).toNat = n / 2 ^ (8 * w) % 256 := by
        unfold byteAt
        have hp : ((2 : Int) ^ (8 * w)) = ((2 ^ (8 * w) : Nat) : Int) := by simp
        rw [hp, Int.fdiv_eq_ediv_of_nonneg _ (Int.natCast_nonneg _)]
        have : ((n : Int) / ((2 ^ (8 * w) : Nat) : Int)) = ((n / 2 ^ (8 * w) : Nat) : Int) := rfl
        rw [this]
        generalize n / 2 ^ (8 * w) = q
        omega
      rw [leB_succ, show bytesS [byteAt (n : Int) w] = [UInt8.ofNat (byteAt (n : Int) w).toNat] from rfl, key, ih, leB_len, hb]
      have h8 : (UInt8.ofNat (n / 2 ^ (8 * w) % 256)).toNat = n / 2 ^ (8 * w) % 256 := by simp
      rw [h8, show 8 * (w + 1) = 8 * w + 8 by omega, Nat.pow_add, Nat.mod_mul]
  intro w n hn
  rw [gen, Nat.mod_eq_of_lt hn]
theorem all255_leB (w : Nat) : all255 (leB (-1) w) = true := by
  unfold all255 leB leL bytesS
  rw [List.all_eq_true]
  intro x hx
  simp only [List.mem_map, List.mem_range] at hx
  obtain ⟨n, ⟨i, _, rfl⟩, rfl⟩ := hx
  rw [byteAt_neg]
  rfl
theorem all255_val : ∀ (s : Str), all255 s = true → leV s = 2 ^ (8 * s.length) - 1
  | [], _ => rfl
  | b :: r, h => by
    unfold all255 at h
    simp only [List.all_cons, Bool.and_eq_true, beq_iff_eq] at h
    have ih := all255_val r h.2
    obtain ⟨h1, _⟩ := h
    subst h1
    simp only [leV, ih, List.length_cons]
    rw [show 8 * (r.length + 1) = 8 * r.length + 8 by omega, Nat.pow_add]
    have := Nat.two_pow_pos (8 * r.length)
    rw [show (255 : UInt8).toNat = 255 from rfl]
    omega
theorem numF_leB (n m : Int) (w : Nat) (h8 : w ≤ 8) (h1 : 1 ≤ w) (hok : okIn n m = true) (hm : m < 9223372036854775807) (hmw : w < 8 → m < 2 ^ (8 * w) - 1) : numF (leB n w) = n := by
  unfold okIn at hok
  simp only [Bool.or_eq_true, Bool.and_eq_true, beq_iff_eq, decide_eq_true_eq] at hok
  unfold numF
  rcases hok with rfl | ⟨h0, hle⟩
  · rw [if_pos (all255_leB w)]
  · obtain ⟨k, rfl⟩ : ∃ k : Nat, n = (k : Int) := ⟨n.toNat, by omega⟩
    have hp : (2 : Nat) ^ (8 * w) ≤ 2 ^ 64 := Nat.pow_le_pow_right (by omega) (by omega)
    have hlt : k + 1 < 2 ^ (8 * w) := by
      by_cases hw : w < 8
      · have := hmw hw
        have hc : ((2 : Int) ^ (8 * w)) = ((2 ^ (8 * w) : Nat) : Int) := by simp
        rw [hc] at this
        omega
      · have : w = 8 := by omega
        subst this
        omega
    have hv := leV_leL w k (by omega)
    rw [if_neg, hv, if_neg (by omega)]
    intro ha
    have := all255_val _ ha
    rw [hv, leB_len] at this
    omega
end Go.Proofs.Ytglcohgjcjaamaa
