/-
  Plain laws: dirread.Stat is its reference; stat.Check is its reference. No program in sight.
-/
import Derived.Test.YtglcohgjcjaamaaPa
import Derived.Test.YtglcohgjcjaamaaNum
namespace Go.Proofs.Ytglcohgjcjaamaa
open Go.Rt Go.RowKit

/-! ### Stat -/
theorem has_eq (x : Int) (k : Nat) (hk : k < 63) (h1 : x ≤ 9223372036854775807) : dirread_has x ((2 ^ k : Nat) : Int) = ref11_has x ((2 ^ k : Nat) : Int) := by
  unfold dirread_has ref11_has
  by_cases h0 : 0 ≤ x
  · obtain ⟨n, rfl⟩ : ∃ n : Nat, x = (n : Int) := ⟨x.toNat, by omega⟩
    have hk2 : 2 ^ k < 2 ^ 63 := Nat.pow_lt_pow_right (by omega) hk
    have hpos := Nat.two_pow_pos k
    have hd : n / 2 ^ k ≤ n := Nat.div_le_self _ _
    have hq : quoI .i64 (n : Int) ((2 ^ k : Nat) : Int) = some ((n / 2 ^ k : Nat) : Int) := by
      unfold quoI
      rw [if_neg (by omega)]
      have : (n : Int).tdiv ((2 ^ k : Nat) : Int) = ((n / 2 ^ k : Nat) : Int) := rfl
      rw [this]
      generalize n / 2 ^ k = q at hd
      rw [wi64_eq (n := (q : Int)) ⟨by omega, by omega⟩]
    rw [andI_nat (by omega) hk2, hq]
    have h0' : decide ((n : Int) ≥ 0) = true := by simp
    have e := @bit_and n k
    have e1 : (((n &&& 2 ^ k : Nat) : Int) != 0) = (n &&& 2 ^ k != 0) := by
      rw [Bool.eq_iff_iff]; simp only [bne_iff_ne, ne_eq]; omega
    have e2 : (((n / 2 ^ k : Nat) : Int).tmod 2 == 1) = (n / 2 ^ k % 2 == 1) := by
      have : ((n / 2 ^ k : Nat) : Int).tmod 2 = ((n / 2 ^ k % 2 : Nat) : Int) := rfl
      rw [this, Bool.eq_iff_iff]; simp only [beq_iff_eq]; omega
    rw [h0', e1, e]
    simp only [cond_true, Option.bind_some, Bool.true_and, e2]
  · have h0' : decide (x ≥ 0) = false := by simp; omega
    rw [h0']
    rfl
theorem stat_eq (x : api_Node) (h : x.ok) (d : Int) : dirread_Stat x d = ref11_Stat x d := by
  have hm : x.Mode_ ≤ 9223372036854775807 := h.2.2.2.2.1.2
  have e1 := has_eq x.Mode_ 31 (by omega) hm
  have e2 := has_eq x.Mode_ 30 (by omega) hm
  have e3 := has_eq x.Mode_ 29 (by omega) hm
  have e4 := has_eq x.Mode_ 27 (by omega) hm
  simp only [Nat.reducePow, Int.cast_ofNat_Int] at e1 e2 e3 e4
  unfold dirread_Stat ref11_Stat dirread_kind
  rw [e1, e2, e3, e4]
  cases ref11_has x.Mode_ 2147483648 <;> cases ref11_has x.Mode_ 1073741824 <;> cases ref11_has x.Mode_ 536870912 <;> cases ref11_has x.Mode_ 134217728 <;> simp
  all_goals (rename_i a b c d; cases a <;> cases b <;> cases c <;> cases d <;> rfl)
theorem has_some (x : Int) (k : Int) : ∃ b, dirread_has x k = some b := ⟨_, rfl⟩
theorem stat_some (x : api_Node) (d : Int) : ∃ r, dirread_Stat x d = some r := by
  unfold dirread_Stat dirread_kind dirread_has
  simp only [Option.bind_some]
  generalize (decide (x.Mode_ ≥ 0) && andI .i64 x.Mode_ 2147483648 != 0) = a
  generalize (decide (x.Mode_ ≥ 0) && andI .i64 x.Mode_ 1073741824 != 0) = b
  generalize (decide (x.Mode_ ≥ 0) && andI .i64 x.Mode_ 536870912 != 0) = c
  generalize (decide (x.Mode_ ≥ 0) && andI .i64 x.Mode_ 134217728 != 0) = e
  cases a <;> cases b <;> cases c <;> cases e <;> exact ⟨_, rfl⟩
theorem DirreadStats_true (x0 : api_Node) (x1 : Int) (h0 : x0.ok) (_ : InK .i64 x1) : law11_DirreadStats x0 x1 = some true := by
  obtain ⟨r, hr⟩ := stat_some x0 x1
  unfold law11_DirreadStats
  rw [← stat_eq x0 h0 x1, hr]
  simp [awake11]
end Go.Proofs.Ytglcohgjcjaamaa
