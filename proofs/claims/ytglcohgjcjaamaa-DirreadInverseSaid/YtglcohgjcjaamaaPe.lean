/-
  Plain laws: stat.Put is its reference. No program in sight.
-/
import Derived.Test.YtglcohgjcjaamaaPd
namespace Go.Proofs.Ytglcohgjcjaamaa
open Go.Rt Go.RowKit

theorem lit1 (n : Int) : ref07_little n 1 = some (leB n 1) := by
  have h := little_eq n 1 (by omega)
  rwa [show ((1 : Nat) : Int) = 1 from rfl] at h
theorem lit2 (n : Int) : ref07_little n 2 = some (leB n 2) := by
  have h := little_eq n 2 (by omega)
  rwa [show ((2 : Nat) : Int) = 2 from rfl] at h
theorem lit4 (n : Int) : ref07_little n 4 = some (leB n 4) := by
  have h := little_eq n 4 (by omega)
  rwa [show ((4 : Nat) : Int) = 4 from rfl] at h
theorem lit8 (n : Int) : ref07_little n 8 = some (leB n 8) := by
  have h := little_eq n 8 (by omega)
  rwa [show ((8 : Nat) : Int) = 8 from rfl] at h
theorem ref_put_eq (x : api_Dir) (hn : x.Name_.length ≤ 9223372036854775807) : ref07_Put x = some (putR x) := by
  unfold ref07_Put putR
  refine bind_eq (refcheck_eq x hn) ?_
  by_cases hc : checkR x = 0
  · obtain ⟨hN, hT⟩ := checkR_zero x hc
    have htl := texts_len x hT
    have c : (checkR x != 0) = false := by simp [hc]
    rw [if_pos hc]
    refine cond_f c ?_
    have l1 := lit1
    have l2 := lit2
    have l4 := lit4
    have l8 := lit8
    have hcat : ∀ a b : Str, a.length ≤ 1000 → b.length ≤ 1000 → cat a b = some (a ++ b) := fun a b ha hb => cat_eq (by omega)
    refine bind_eq (l1 _) ?_
    refine bind_eq (l4 _) ?_
    refine bind_eq (hcat _ _ (by simp [leB_len]) (by simp [leB_len])) ?_
    refine bind_eq (l8 _) ?_
    refine bind_eq (hcat _ _ (by simp [leB_len]) (by simp [leB_len])) ?_
    refine bind_eq (l2 _) ?_
    refine bind_eq (l4 _) ?_
    refine bind_eq (hcat _ _ (by simp [leB_len]) (by simp [leB_len])) ?_
    refine bind_eq (hcat _ _ (by simp [leB_len]) (by simp [leB_len])) ?_
    refine bind_eq (l4 _) ?_
    refine bind_eq (hcat _ _ (by simp [leB_len]) (by simp [leB_len])) ?_
    refine bind_eq (l8 _) ?_
    refine bind_eq (hcat _ _ (by simp [leB_len]) (by simp [leB_len])) ?_
    refine bind_eq (l8 _) ?_
    refine bind_eq (hcat _ _ (by simp [leB_len]) (by simp [leB_len])) ?_
    refine bind_eq (l8 _) ?_
    refine bind_eq (hcat _ _ (by simp [leB_len]) (by simp [leB_len])) ?_
    refine bind_eq (counted_eq x.Name_ (by omega)) ?_
    refine bind_eq (hcat _ _ (by simp [leB_len]) (by simp [textB_len]; omega)) ?_
    refine bind_eq (counted_eq x.Uid_ (by omega)) ?_
    refine bind_eq (hcat _ _ (by simp [leB_len, textB_len]; omega) (by simp [textB_len]; omega)) ?_
    refine bind_eq (counted_eq x.Gid_ (by omega)) ?_
    refine bind_eq (hcat _ _ (by simp [leB_len, textB_len]; omega) (by simp [textB_len]; omega)) ?_
    refine bind_eq (counted_eq x.Muid_ (by omega)) ?_
    refine bind_eq (hcat _ _ (by simp [leB_len, textB_len]; omega) (by simp [textB_len]; omega)) ?_
    have e : leB x.Type_ 2 ++ leB x.Dev_ 4 ++ (leB x.Qid_.Type_ 1 ++ leB x.Qid_.Vers_ 4 ++ leB x.Qid_.Path_ 8) ++ leB x.Mode_ 4 ++ leB x.Atime_ 8 ++ leB x.Mtime_ 8 ++ leB x.Length_ 8 ++ textB x.Name_ ++ textB x.Uid_ ++ textB x.Gid_ ++ textB x.Muid_ = bodyB x := by
      simp [bodyB, numsB]
    rw [e]
    refine bind_eq (l2 _) ?_
    refine bind_eq (cat_eq (by rw [leB_len, bodyB_len]; omega)) ?_
    simp only [putB]
  · have c : (checkR x != 0) = true := by simp [hc]
    rw [if_neg hc]
    exact cond_t c rfl
theorem StatPuts_true (x0 : api_Dir) (h0 : x0.ok) : law07_StatPuts x0 = some true := by
  unfold law07_StatPuts
  obtain ⟨b, hb⟩ : ∃ b, law07_short x0 = some b := ⟨_, rfl⟩
  rw [hb]
  cases b with
  | false => simp [awake07]
  | true =>
    have hl := short_le x0 hb
    have hB : BIG = 18446744073709551616 := rfl
    rw [put_eq x0 h0 (by omega), ref_put_eq x0 (by omega)]
    simp [awake07]
end Go.Proofs.Ytglcohgjcjaamaa
