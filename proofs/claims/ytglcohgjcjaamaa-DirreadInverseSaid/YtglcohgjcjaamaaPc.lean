/-
  Plain laws: stat.Check is its reference. No program in sight.
-/
import Derived.Test.YtglcohgjcjaamaaPa
import Derived.Test.YtglcohgjcjaamaaNum
namespace Go.Proofs.Ytglcohgjcjaamaa
open Go.Rt Go.RowKit

/-! ### Names -/
def okByte (b : UInt8) : Bool := decide (33 ≤ b.toNat) && decide (b.toNat ≤ 126) && (b.toNat != 47)
def okName (s : Str) : Bool := decide (1 ≤ s.length) && decide (s.length ≤ 64) && (s != [46]) && (s != [46, 46]) && s.all okByte
theorem path_loop (s : Str) (h : s.length ≤ 9223372036854775807) : loopF (path_Valid_L1 s) BIG 0 = some (if s.all okByte then .fall () else .ret false) := by
  have hB : BIG = 18446744073709551616 := rfl
  refine loop_all s okByte false (by omega) (fun i hi => ?_) ?_
  · unfold path_Valid_L1
    rw [byteI_lt hi]
    have h1 : decide ((i : Int) < (s.length : Int)) = true := by simp; omega
    rw [h1, w64_eq (n := (i : Int) + 1) ⟨by omega, by omega⟩]
    generalize s[i] = b
    simp only [cond_true, Option.bind_some]
    have e : okByte b = !(decide ((b.toNat : Int) < 33) || decide ((b.toNat : Int) > 126) || (b.toNat : Int) == 47) := by
      unfold okByte
      rw [Bool.eq_iff_iff]
      simp only [Bool.and_eq_true, decide_eq_true_eq, bne_iff_ne, Bool.not_eq_true', Bool.or_eq_false_iff, decide_eq_false_iff_not, beq_eq_false_iff_ne]
      omega
    rw [e]
    cases h1 : decide ((b.toNat : Int) < 33) <;> cases h2 : decide ((b.toNat : Int) > 126) <;> cases h3 : ((b.toNat : Int) == 47) <;> simp
  · unfold path_Valid_L1
    have h1 : decide ((s.length : Int) < (s.length : Int)) = false := by simp
    rw [h1]; rfl
theorem ref_loop (s : Str) (h : s.length ≤ 9223372036854775807) : loopF (ref03_Valid_L1 s) BIG 0 = some (if s.all okByte then .fall () else .ret false) := path_loop s h
theorem valid_eq (s : Str) (h : s.length ≤ 9223372036854775807) : path_Valid s = some (okName s) := by
  have hB : BIG = 18446744073709551616 := rfl
  unfold path_Valid okName
  rw [path_loop s h]
  simp only [Option.bind_some]
  have e1 : (s == []) = !decide (1 ≤ s.length) := by
    cases s with
    | nil => rfl
    | cons a l => rw [Bool.eq_iff_iff]; simp
  have e2 : decide ((s.length : Int) > 64) = !decide (s.length ≤ 64) := by
    rw [Bool.eq_iff_iff]; simp; omega
  rw [e1, e2]
  simp only [bne]
  cases decide (1 ≤ s.length) <;> cases decide (s.length ≤ 64) <;> cases (s == [46]) <;> cases (s == [46, 46]) <;> cases s.all okByte <;> simp
theorem ref_valid_eq (s : Str) (h : s.length ≤ 9223372036854775807) : ref03_Valid s = some (okName s) := by
  unfold ref03_Valid okName
  rw [ref_loop s h]
  simp only [Option.bind_some]
  have e1 : decide ((s.length : Int) ≥ 1) = decide (1 ≤ s.length) := by
    rw [Bool.eq_iff_iff]; simp only [decide_eq_true_eq]; omega
  have e2 : decide ((s.length : Int) ≤ 64) = decide (s.length ≤ 64) := by
    rw [Bool.eq_iff_iff]; simp only [decide_eq_true_eq]; omega
  rw [e1, e2]
  simp only [bne]
  cases decide (1 ≤ s.length) <;> cases decide (s.length ≤ 64) <;> cases (s == [46]) <;> cases (s == [46, 46]) <;> cases s.all okByte <;> simp

/-! ### Numbers -/
def okNum (m : stat_number) : Bool := decide (-1 ≤ m.n_) && decide (m.n_ ≤ m.most_)
def numList (x : api_Dir) : List stat_number := [(stat_number.mk x.Type_ 2 65534), (stat_number.mk x.Dev_ 4 4294967294), (stat_number.mk x.Qid_.Type_ 1 232), (stat_number.mk x.Qid_.Vers_ 4 2147483647), (stat_number.mk x.Qid_.Path_ 8 1099511627776), (stat_number.mk x.Mode_ 4 3892314623), (stat_number.mk x.Atime_ 8 1099511627776), (stat_number.mk x.Mtime_ 8 1099511627776), (stat_number.mk x.Length_ 8 9007199254740991)]
theorem numbers_eq (x : api_Dir) : stat_numbers x = some (numList x) := rfl
theorem check_loop (ns : List stat_number) (h : ns.length ≤ 1000) : loopF (stat_Check_L1 ns) BIG 0 = some (if ns.all okNum then .fall () else .ret 5) := by
  have hB : BIG = 18446744073709551616 := rfl
  refine loop_all ns okNum 5 (by omega) (fun i hi => ?_) ?_
  · unfold stat_Check_L1
    rw [getI_lt hi]
    have h1 : decide ((i : Int) < (ns.length : Int)) = true := by simp; omega
    rw [h1, w64_eq (n := (i : Int) + 1) ⟨by omega, by omega⟩]
    generalize ns[i] = m
    simp only [cond_true, Option.bind_some]
    have e : okNum m = !(decide (m.n_ < -1) || decide (m.n_ > m.most_)) := by
      unfold okNum
      rw [Bool.eq_iff_iff]
      simp only [Bool.and_eq_true, decide_eq_true_eq, Bool.not_eq_true', Bool.or_eq_false_iff, decide_eq_false_iff_not]
      omega
    rw [e]
    cases decide (m.n_ < -1) <;> cases decide (m.n_ > m.most_) <;> simp
  · unfold stat_Check_L1
    have h1 : decide ((ns.length : Int) < (ns.length : Int)) = false := by simp
    rw [h1]; rfl
/-- -1, or no bit outside m. -/
def okBits (x m : Int) : Bool := (x == -1) || (decide (x ≥ 0) && (andI .i64 x m == x))
def okIn (x m : Int) : Bool := (x == -1) || (decide (x ≥ 0) && decide (x ≤ m))
theorem within_eq (x : Int) (m : Nat) (hm : m < 2 ^ 63) (hx : x ≤ 9223372036854775807) : stat_within x (m : Int) = some (okBits x (m : Int)) := by
  unfold stat_within okBits
  by_cases h0 : 0 ≤ x
  · obtain ⟨n, rfl⟩ : ∃ n : Nat, x = (n : Int) := ⟨x.toNat, by omega⟩
    rw [andNot_zero (by omega) hm]
  · have h0' : decide (x ≥ 0) = false := by simp; omega
    rw [h0']
    simp
theorem bits_in (x : Int) (m : Nat) (hm : m < 2 ^ 63) (hx : x ≤ 9223372036854775807) (h : okBits x (m : Int) = true) : okIn x (m : Int) = true := by
  unfold okBits at h
  unfold okIn
  by_cases h0 : 0 ≤ x
  · obtain ⟨n, rfl⟩ : ∃ n : Nat, x = (n : Int) := ⟨x.toNat, by omega⟩
    rw [andI_nat (by omega) hm] at h
    simp only [Bool.or_eq_true, Bool.and_eq_true, beq_iff_eq, decide_eq_true_eq] at h ⊢
    rcases h with h | ⟨_, h⟩
    · exact .inl h
    · have : n &&& m = n := by omega
      have := and_le this
      exact .inr ⟨h0, by omega⟩
  · simp only [Bool.or_eq_true, Bool.and_eq_true, beq_iff_eq, decide_eq_true_eq] at h ⊢
    rcases h with h | ⟨h, _⟩
    · exact .inl h
    · omega
theorem okNum_in (n w m : Int) : okNum ⟨n, w, m⟩ = okIn n m ∨ m < -1 := by
  by_cases hm : m < -1
  · exact .inr hm
  · refine .inl ?_
    unfold okNum okIn
    rw [Bool.eq_iff_iff]
    simp only [Bool.or_eq_true, Bool.and_eq_true, beq_iff_eq, decide_eq_true_eq]
    omega
/-- What Check asks of the numbers. -/
def okNums (x : api_Dir) : Bool := okIn x.Type_ 65534 && okIn x.Dev_ 4294967294 && okBits x.Qid_.Type_ 232 && okIn x.Qid_.Vers_ 2147483647 && okIn x.Qid_.Path_ 1099511627776 && okBits x.Mode_ 3892314623 && okIn x.Atime_ 1099511627776 && okIn x.Mtime_ 1099511627776 && okIn x.Length_ 9007199254740991
def okTexts (x : api_Dir) : Bool := (x.Name_ == [] || x.Name_ == [47] || okName x.Name_) && decide (x.Uid_.length ≤ 64) && decide (x.Gid_.length ≤ 64) && decide (x.Muid_.length ≤ 64)
def checkR (x : api_Dir) : Int := if okNums x then (if okTexts x then 0 else 6) else 5
theorem numList_ok (x : api_Dir) (h : x.ok) : ((numList x).all okNum && okBits x.Qid_.Type_ 232 && okBits x.Mode_ 3892314623) = okNums x := by
  have e := fun n w m (hm : ¬ m < -1) => (okNum_in n w m).resolve_right hm
  have b1 := bits_in x.Qid_.Type_ 232 (by omega) h.2.2.1.1.2
  have b2 := bits_in x.Mode_ 3892314623 (by omega) h.2.2.2.1.2
  unfold okNums numList
  simp only [List.all_cons, List.all_nil, e _ _ _ (show ¬ (65534 : Int) < -1 by omega), e _ _ _ (show ¬ (4294967294 : Int) < -1 by omega), e _ _ _ (show ¬ (232 : Int) < -1 by omega), e _ _ _ (show ¬ (2147483647 : Int) < -1 by omega), e _ _ _ (show ¬ (1099511627776 : Int) < -1 by omega), e _ _ _ (show ¬ (3892314623 : Int) < -1 by omega), e _ _ _ (show ¬ (9007199254740991 : Int) < -1 by omega)]
  simp only [Int.cast_ofNat_Int] at b1 b2
  cases h1 : okBits x.Qid_.Type_ 232 <;> cases h2 : okBits x.Mode_ 3892314623 <;> simp_all [Bool.and_assoc]
theorem check_eq (x : api_Dir) (h : x.ok) (hn : x.Name_.length ≤ 9223372036854775807) : stat_Check x = some (checkR x) := by
  have hl := numList_ok x h
  have w1 := within_eq x.Qid_.Type_ 232 (by omega) h.2.2.1.1.2
  have w2 := within_eq x.Mode_ 3892314623 (by omega) h.2.2.2.1.2
  simp only [Int.cast_ofNat_Int] at w1 w2
  unfold stat_Check checkR
  rw [numbers_eq]
  simp only [Option.bind_some]
  rw [check_loop (numList x) (show (9 : Nat) ≤ 1000 by decide)]
  simp only [Option.bind_some]
  rw [← hl]
  cases h1 : (numList x).all okNum with
  | false => simp
  | true =>
    simp only [if_true]
    rw [w1, w2, valid_eq _ hn]
    simp only [Option.bind_some]
    have em : decide (maxI (maxI (x.Uid_.length : Int) (x.Gid_.length : Int)) (x.Muid_.length : Int) > 64) = !(decide (x.Uid_.length ≤ 64) && decide (x.Gid_.length ≤ 64) && decide (x.Muid_.length ≤ 64)) := by
      rw [Bool.eq_iff_iff]
      simp only [Bool.not_eq_true', Bool.and_eq_false_iff, decide_eq_true_eq, decide_eq_false_iff_not]
      unfold maxI
      split <;> split <;> omega
    rw [em]
    unfold okTexts
    cases okBits x.Qid_.Type_ 232 <;> cases okBits x.Mode_ 3892314623 <;> cases (x.Name_ == []) <;> cases (x.Name_ == [47]) <;> cases okName x.Name_ <;> cases decide (x.Uid_.length ≤ 64) <;> cases decide (x.Gid_.length ≤ 64) <;> cases decide (x.Muid_.length ≤ 64) <;> simp
theorem refnums_eq (x : api_Dir) : ref07_Numbers x = some (okNums x) := by
  unfold ref07_Numbers ref07_sum ref07_in okNums okIn okBits
  simp only [Option.bind_some]
  generalize ((x.Type_ == -1) || (decide (x.Type_ ≥ 0) && decide (x.Type_ ≤ 65534))) = a1
  generalize ((x.Dev_ == -1) || (decide (x.Dev_ ≥ 0) && decide (x.Dev_ ≤ 4294967294))) = a2
  generalize ((x.Qid_.Type_ == -1) || (decide (x.Qid_.Type_ ≥ 0) && (andI .i64 x.Qid_.Type_ 232 == x.Qid_.Type_))) = a3
  generalize ((x.Qid_.Vers_ == -1) || (decide (x.Qid_.Vers_ ≥ 0) && decide (x.Qid_.Vers_ ≤ 2147483647))) = a4
  generalize ((x.Qid_.Path_ == -1) || (decide (x.Qid_.Path_ ≥ 0) && decide (x.Qid_.Path_ ≤ 1099511627776))) = a5
  generalize ((x.Mode_ == -1) || (decide (x.Mode_ ≥ 0) && (andI .i64 x.Mode_ 3892314623 == x.Mode_))) = a6
  generalize ((x.Atime_ == -1) || (decide (x.Atime_ ≥ 0) && decide (x.Atime_ ≤ 1099511627776))) = a7
  generalize ((x.Mtime_ == -1) || (decide (x.Mtime_ ≥ 0) && decide (x.Mtime_ ≤ 1099511627776))) = a8
  generalize ((x.Length_ == -1) || (decide (x.Length_ ≥ 0) && decide (x.Length_ ≤ 9007199254740991))) = a9
  cases a1 <;> cases a2 <;> cases a3 <;> cases a4 <;> cases a5 <;> cases a6 <;> cases a7 <;> cases a8 <;> cases a9 <;> rfl
theorem refcheck_eq (x : api_Dir) (hn : x.Name_.length ≤ 9223372036854775807) : ref07_Check x = some (checkR x) := by
  unfold ref07_Check checkR
  rw [refnums_eq, ref_valid_eq _ hn]
  simp only [Option.bind_some]
  have em : ∀ n : Nat, decide ((n : Int) > 64) = !decide (n ≤ 64) := fun n => by
    rw [Bool.eq_iff_iff]
    simp only [Bool.not_eq_true', decide_eq_true_eq, decide_eq_false_iff_not]
    omega
  rw [em, em, em]
  unfold okTexts
  cases okNums x <;> cases (x.Name_ == []) <;> cases (x.Name_ == [47]) <;> cases okName x.Name_ <;> cases decide (x.Uid_.length ≤ 64) <;> cases decide (x.Gid_.length ≤ 64) <;> cases decide (x.Muid_.length ≤ 64) <;> simp
theorem short_le (x : api_Dir) (h : law07_short x = some true) : x.Name_.length ≤ 1000 ∧ x.Uid_.length ≤ 1000 ∧ x.Gid_.length ≤ 1000 ∧ x.Muid_.length ≤ 1000 := by
  unfold law07_short at h
  simp only [Option.some.injEq, Bool.and_eq_true, decide_eq_true_eq] at h
  omega
theorem StatChecks_true (x0 : api_Dir) (h0 : x0.ok) : law07_StatChecks x0 = some true := by
  unfold law07_StatChecks
  obtain ⟨b, hb⟩ : ∃ b, law07_short x0 = some b := ⟨_, rfl⟩
  rw [hb]
  cases b with
  | false => simp [awake07]
  | true =>
    have hl := short_le x0 hb
    have hB : BIG = 18446744073709551616 := rfl
    rw [check_eq x0 h0 (by omega), refcheck_eq x0 (by omega)]
    simp [awake07]
end Go.Proofs.Ytglcohgjcjaamaa
