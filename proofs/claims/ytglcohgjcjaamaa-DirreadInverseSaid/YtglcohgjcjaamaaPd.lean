/-
  Plain laws: stat.Put is its reference. No program in sight.
-/
import Derived.Test.YtglcohgjcjaamaaPc
namespace Go.Proofs.Ytglcohgjcjaamaa
open Go.Rt Go.RowKit

/-! ### Bytes of a number -/
theorem put_loop (n : Int) (w : Nat) (hw : w ≤ 8) : loopF (octet_Put_L1 (List.replicate w (0 : Int)) n) BIG (List.replicate w (0 : Int), 0) = some (leL n w) := by
  have hB : BIG = 18446744073709551616 := rfl
  have h := loop_traj (body := octet_Put_L1 (List.replicate w (0 : Int)) n) (fun i => (leL n i ++ List.replicate (w - i) (0 : Int), (i : Int))) w (by omega) (b := leL n w) (fun i hi => ?_) ?_
  · simpa [leL] using h
  · unfold octet_Put_L1
    have h1 : decide ((i : Int) < ((List.replicate w (0 : Int)).length : Int)) = true := by simp; omega
    simp only [h1, cond_true]
    rw [shr_byte n i (by omega)]
    simp only [Option.bind_some]
    have h2 : (leL n i ++ List.replicate (w - i) (0 : Int)).length = w := by simp [leL_len]; omega
    rw [getI_lt (by omega : i < (leL n i ++ List.replicate (w - i) (0 : Int)).length)]
    simp only [Option.bind_some, Int.toNat_natCast]
    rw [w64_eq (n := (i : Int) + 1) ⟨by omega, by omega⟩, wu8]
    have h3 := set_mid (leL n i) (w - (i + 1)) (0 : Int) (byteAt n i)
    rw [leL_len, show w - (i + 1) + 1 = w - i by omega] at h3
    rw [leL_succ]
    show some (Step.next ((leL n i ++ List.replicate (w - i) (0 : Int)).set i (byteAt n i), (i : Int) + 1)) = _
    rw [h3]
    rfl
  · unfold octet_Put_L1
    have h1 : decide ((w : Int) < ((List.replicate w (0 : Int)).length : Int)) = false := by simp
    simp only [h1, cond_false]
    simp
theorem octet_put_eq (n : Int) (w : Nat) (h1 : 1 ≤ w) (h8 : w ≤ 8) (h0 : 0 ≤ n) (hn : w < 8 → n < 2 ^ (8 * w)) : octet_Put n (w : Int) = some (leB n w, 0) := by
  unfold octet_Put
  have c1 : (decide ((w : Int) < 1) || decide ((w : Int) > 8)) = false := by
    rw [Bool.or_eq_false_iff]; exact ⟨by simp; omega, by simp; omega⟩
  have c2 : decide (n < 0) = false := by simp; omega
  rw [c1, c2]
  simp only [cond_false]
  have c3 : (bif decide ((w : Int) < 8) then (shrI .i64 n (w64 (8 * (w : Int)))).bind fun y3 => some (decide (y3 > 0)) else some false) = some false := by
    by_cases hlt : w < 8
    · have c4 : decide ((w : Int) < 8) = true := by simp; omega
      rw [c4, shr_byte n w hlt]
      simp only [cond_true, Option.bind_some, Option.some.injEq, decide_eq_false_iff_not]
      have hp : (0 : Int) < 2 ^ (8 * w) := Int.pow_pos (by omega)
      rw [Int.fdiv_eq_ediv_of_nonneg _ (by omega), Int.ediv_eq_zero_of_lt h0 (hn hlt)]
      omega
    · have c4 : decide ((w : Int) < 8) = false := by simp; omega
      rw [c4]; rfl
  rw [c3]
  simp only [Option.bind_some, cond_false]
  rw [makeI_eq (by omega) (by omega) (by omega)]
  simp only [Option.bind_some, Int.toNat_natCast]
  rw [put_loop n w h8]
  rfl
theorem little_eq (n : Int) (w : Nat) (hw : w ≤ 8) : ref07_little n (w : Int) = some (leB n w) := by
  have hB : BIG = 18446744073709551616 := rfl
  unfold ref07_little
  have h := loop_traj (body := ref07_little_L1 (w : Int) n) (fun i => (leB n i, (i : Int))) w (by omega) (b := leB n w) (fun i hi => ?_) ?_
  · have e : leB n 0 = [] := rfl
    simp only [e] at h
    rw [show ((0 : Nat) : Int) = 0 from rfl] at h
    rw [h]; rfl
  · unfold ref07_little_L1
    have h1 : decide ((i : Int) < (w : Int)) = true := by simp; omega
    simp only [h1, cond_true]
    rw [shr_byte n i (by omega)]
    simp only [Option.bind_some]
    rw [cat_eq (by rw [leB_len]; simp [bytesS]; omega)]
    simp only [Option.bind_some]
    rw [w64_eq (n := (i : Int) + 1) ⟨by omega, by omega⟩, wu8, leB_succ]
    rfl
  · unfold ref07_little_L1
    have h1 : decide ((w : Int) < (w : Int)) = false := by simp
    simp only [h1, cond_false]
theorem repeat_eq (w : Nat) (hw : w ≤ 8) : strings_Repeat [255] (w : Int) = some (leB (-1) w) := by
  unfold strings_Repeat
  rw [if_pos ⟨by omega, by omega, by simp; omega⟩]
  simp only [Int.toNat_natCast, Option.some.injEq]
  unfold leB leL
  induction w with
  | zero => rfl
  | succ k ih =>
    rw [List.replicate_succ', List.flatten_append, ih (by omega), List.range_succ, List.map_append]
    simp [bytesS, byteAt_neg]
theorem number_put (m : stat_number) (w : Nat) (hw : m.width_ = (w : Int)) (h1 : 1 ≤ w) (h8 : w ≤ 8) (hok : okNum m = true) (hm : w < 8 → m.most_ < 2 ^ (8 * w)) : stat_put m = some (leB m.n_ w) := by
  unfold stat_put
  unfold okNum at hok
  simp only [Bool.and_eq_true, decide_eq_true_eq] at hok
  rw [hw]
  by_cases hn : m.n_ = -1
  · have c : (m.n_ == -1) = true := by simp [hn]
    rw [c, hn, repeat_eq w h8]; rfl
  · have c : (m.n_ == -1) = false := by simp [hn]
    rw [c, octet_put_eq m.n_ w h1 h8 (by omega) (fun h => by have := hm h; omega)]; rfl

/-! ### The description's bytes -/
def numsB (x : api_Dir) : Str := leB x.Type_ 2 ++ leB x.Dev_ 4 ++ leB x.Qid_.Type_ 1 ++ leB x.Qid_.Vers_ 4 ++ leB x.Qid_.Path_ 8 ++ leB x.Mode_ 4 ++ leB x.Atime_ 8 ++ leB x.Mtime_ 8 ++ leB x.Length_ 8
def textB (s : Str) : Str := leB (s.length : Int) 2 ++ s
def bodyB (x : api_Dir) : Str := numsB x ++ textB x.Name_ ++ textB x.Uid_ ++ textB x.Gid_ ++ textB x.Muid_
def putB (x : api_Dir) : Str := leB ((bodyB x).length : Int) 2 ++ bodyB x
theorem numsB_len (x : api_Dir) : (numsB x).length = 47 := by simp [numsB, leB_len]
theorem textB_len (s : Str) : (textB s).length = 2 + s.length := by simp [textB, leB_len]
theorem bodyB_len (x : api_Dir) : (bodyB x).length = 55 + x.Name_.length + x.Uid_.length + x.Gid_.length + x.Muid_.length := by simp [bodyB, numsB_len, textB_len]; omega
theorem putB_len (x : api_Dir) : (putB x).length = 57 + x.Name_.length + x.Uid_.length + x.Gid_.length + x.Muid_.length := by simp [putB, leB_len, bodyB_len]; omega
theorem checkR_zero (x : api_Dir) (h : checkR x = 0) : okNums x = true ∧ okTexts x = true := by
  unfold checkR at h
  cases h1 : okNums x <;> cases h2 : okTexts x <;> simp_all
theorem texts_len (x : api_Dir) (h : okTexts x = true) : x.Name_.length ≤ 64 ∧ x.Uid_.length ≤ 64 ∧ x.Gid_.length ≤ 64 ∧ x.Muid_.length ≤ 64 := by
  unfold okTexts okName at h
  simp only [Bool.and_eq_true, Bool.or_eq_true, beq_iff_eq, decide_eq_true_eq] at h
  obtain ⟨⟨⟨hn, h1⟩, h2⟩, h3⟩ := h
  refine ⟨?_, h1, h2, h3⟩
  rcases hn with (hn | hn) | hn
  · rw [hn]; simp
  · rw [hn]; simp
  · omega
theorem nums_put_loop (x : api_Dir) (hok : (numList x).all okNum = true) : loopF (stat_Put_L1 (numList x)) BIG ([], 0) = some (numsB x) := by
  have hl : (numList x).length = 9 := rfl
  simp only [numList, List.all_cons, List.all_nil, Bool.and_true, Bool.and_eq_true] at hok
  obtain ⟨o0, o1, o2, o3, o4, o5, o6, o7, o8⟩ := hok
  have s0 := number_put _ 2 rfl (by omega) (by omega) o0 (fun _ => by show (65534 : Int) < 2 ^ 16; omega)
  have s1 := number_put _ 4 rfl (by omega) (by omega) o1 (fun _ => by show (4294967294 : Int) < 2 ^ 32; omega)
  have s2 := number_put _ 1 rfl (by omega) (by omega) o2 (fun _ => by show (232 : Int) < 2 ^ 8; omega)
  have s3 := number_put _ 4 rfl (by omega) (by omega) o3 (fun _ => by show (2147483647 : Int) < 2 ^ 32; omega)
  have s4 := number_put _ 8 rfl (by omega) (by omega) o4 (fun h => by omega)
  have s5 := number_put _ 4 rfl (by omega) (by omega) o5 (fun _ => by show (3892314623 : Int) < 2 ^ 32; omega)
  have s6 := number_put _ 8 rfl (by omega) (by omega) o6 (fun h => by omega)
  have s7 := number_put _ 8 rfl (by omega) (by omega) o7 (fun h => by omega)
  have s8 := number_put _ 8 rfl (by omega) (by omega) o8 (fun h => by omega)
  let bs : List Str := [leB x.Type_ 2, leB x.Dev_ 4, leB x.Qid_.Type_ 1, leB x.Qid_.Vers_ 4, leB x.Qid_.Path_ 8, leB x.Mode_ 4, leB x.Atime_ 8, leB x.Mtime_ 8, leB x.Length_ 8]
  have step : ∀ (i : Nat) (m : stat_number) (b acc : Str), i < 9 → (numList x)[i]? = some m → stat_put m = some b → acc.length ≤ 1000 → b.length ≤ 8 → stat_Put_L1 (numList x) (acc, (i : Int)) = some (.next (acc ++ b, ((i + 1 : Nat) : Int))) := fun i m b acc hi hm hp ha hb => by
    unfold stat_Put_L1
    have h1 : decide ((i : Int) < ((numList x).length : Int)) = true := by rw [hl]; simp; omega
    simp only [h1, cond_true]
    rw [getI_nat, hm]
    simp only [Option.bind_some]
    rw [hp]
    simp only [Option.bind_some]
    rw [cat_eq (by omega)]
    simp only [Option.bind_some]
    rw [w64_eq (n := (i : Int) + 1) ⟨by omega, by omega⟩]
    rfl
  have h := loop_traj (body := stat_Put_L1 (numList x)) (fun i => ((bs.take i).flatten, (i : Int))) 9 (by show (9 : Nat) < 18446744073709551616; omega) (b := numsB x) (fun i hi => ?_) ?_
  · exact h
  · have hcases : i = 0 ∨ i = 1 ∨ i = 2 ∨ i = 3 ∨ i = 4 ∨ i = 5 ∨ i = 6 ∨ i = 7 ∨ i = 8 := by omega
    have hlen : ((bs.take i).flatten).length ≤ 1000 := by
      rcases hcases with rfl | rfl | rfl | rfl | rfl | rfl | rfl | rfl | rfl <;> simp [bs, leB_len]
    rcases hcases with rfl | rfl | rfl | rfl | rfl | rfl | rfl | rfl | rfl
    · exact (step 0 _ _ _ (by omega) rfl s0 hlen (by rw [leB_len]; omega)).trans (by simp [bs])
    · exact (step 1 _ _ _ (by omega) rfl s1 hlen (by rw [leB_len]; omega)).trans (by simp [bs])
    · exact (step 2 _ _ _ (by omega) rfl s2 hlen (by rw [leB_len]; omega)).trans (by simp [bs])
    · exact (step 3 _ _ _ (by omega) rfl s3 hlen (by rw [leB_len]; omega)).trans (by simp [bs])
    · exact (step 4 _ _ _ (by omega) rfl s4 hlen (by rw [leB_len]; omega)).trans (by simp [bs])
    · exact (step 5 _ _ _ (by omega) rfl s5 hlen (by rw [leB_len]; omega)).trans (by simp [bs])
    · exact (step 6 _ _ _ (by omega) rfl s6 hlen (by rw [leB_len]; omega)).trans (by simp [bs])
    · exact (step 7 _ _ _ (by omega) rfl s7 hlen (by rw [leB_len]; omega)).trans (by simp [bs])
    · exact (step 8 _ _ _ (by omega) rfl s8 hlen (by rw [leB_len]; omega)).trans (by simp [bs])
  · unfold stat_Put_L1
    have h1 : decide (((9 : Nat) : Int) < ((numList x).length : Int)) = false := by rw [hl]; simp
    simp only [h1, cond_false]
    simp [bs, numsB]
theorem text_put (s : Str) (h : s.length ≤ 65535) : octet_PutText s = some (textB s, 0) := by
  unfold octet_PutText
  have c : decide ((s.length : Int) > 65535) = false := by simp; omega
  rw [c]
  simp only [cond_false]
  have h2 := octet_put_eq (s.length : Int) 2 (by omega) (by omega) (by omega) (fun _ => by show (s.length : Int) < 2 ^ 16; omega)
  rw [show ((2 : Nat) : Int) = 2 from rfl] at h2
  rw [h2]
  simp only [Option.bind_some]
  rw [cat_eq (by rw [leB_len]; omega)]
  rfl
theorem texts_put_loop (x : api_Dir) (hx : x.Name_.length ≤ 1000 ∧ x.Uid_.length ≤ 1000 ∧ x.Gid_.length ≤ 1000 ∧ x.Muid_.length ≤ 1000) : loopF (stat_Put_L2 x) BIG (numsB x, 0) = some (.fall (bodyB x)) := by
  let ts : List Str := [x.Name_, x.Uid_, x.Gid_, x.Muid_]
  have hl : ts.length = 4 := rfl
  have step : ∀ (i : Nat) (t acc : Str), i < 4 → ts[i]? = some t → t.length ≤ 1000 → acc.length ≤ 10000 → stat_Put_L2 x (acc, (i : Int)) = some (.next (acc ++ textB t, ((i + 1 : Nat) : Int))) := fun i t acc hi ht hlt ha => by
    unfold stat_Put_L2
    have h1 : decide ((i : Int) < ([x.Name_, x.Uid_, x.Gid_, x.Muid_].length : Int)) = true := by simp; omega
    simp only [h1, cond_true]
    rw [getI_nat, show [x.Name_, x.Uid_, x.Gid_, x.Muid_][i]? = some t from ht]
    simp only [Option.bind_some]
    rw [text_put t (by omega)]
    simp only [Option.bind_some, bne_self_eq_false, cond_false]
    rw [cat_eq (by rw [textB_len]; omega)]
    simp only [Option.bind_some]
    rw [w64_eq (n := (i : Int) + 1) ⟨by omega, by omega⟩]
    rfl
  have h := loop_traj (body := stat_Put_L2 x) (fun i => (numsB x ++ ((ts.take i).map textB).flatten, (i : Int))) 4 (by show (4 : Nat) < 18446744073709551616; omega) (b := .fall (bodyB x)) (fun i hi => ?_) ?_
  · simpa using h
  · have hcases : i = 0 ∨ i = 1 ∨ i = 2 ∨ i = 3 := by omega
    have hlen : (numsB x ++ ((ts.take i).map textB).flatten).length ≤ 10000 := by
      rcases hcases with rfl | rfl | rfl | rfl <;> simp [ts, numsB_len, textB_len] <;> omega
    rcases hcases with rfl | rfl | rfl | rfl
    · exact (step 0 _ _ (by omega) rfl hx.1 hlen).trans (by simp [ts])
    · exact (step 1 _ _ (by omega) rfl hx.2.1 hlen).trans (by simp [ts])
    · exact (step 2 _ _ (by omega) rfl hx.2.2.1 hlen).trans (by simp [ts])
    · exact (step 3 _ _ (by omega) rfl hx.2.2.2 hlen).trans (by simp [ts])
  · unfold stat_Put_L2
    have h1 : decide (((4 : Nat) : Int) < ([x.Name_, x.Uid_, x.Gid_, x.Muid_].length : Int)) = false := by simp
    simp only [h1, cond_false]
    simp [ts, bodyB]
def putR (x : api_Dir) : Str × Int := if checkR x = 0 then (putB x, 0) else ([], checkR x)
theorem put_eq (x : api_Dir) (h : x.ok) (hn : x.Name_.length ≤ 9223372036854775807) : stat_Put x = some (putR x) := by
  unfold stat_Put putR
  rw [check_eq x h hn]
  simp only [Option.bind_some]
  by_cases hc : checkR x = 0
  · obtain ⟨hN, hT⟩ := checkR_zero x hc
    have htl := texts_len x hT
    have hnl := numList_ok x h
    rw [hN] at hnl
    simp only [Bool.and_eq_true] at hnl
    have c : (checkR x != 0) = false := by simp [hc]
    rw [c, if_pos hc, numbers_eq]
    simp only [cond_false, Option.bind_some]
    rw [nums_put_loop x hnl.1.1]
    simp only [Option.bind_some]
    rw [texts_put_loop x (by omega)]
    simp only [Option.bind_some]
    have hbl := bodyB_len x
    have h2 := octet_put_eq ((bodyB x).length : Int) 2 (by omega) (by omega) (by omega) (fun _ => by show ((bodyB x).length : Int) < 2 ^ 16; omega)
    rw [show ((2 : Nat) : Int) = 2 from rfl] at h2
    rw [h2]
    simp only [Option.bind_some]
    rw [cat_eq (by rw [leB_len]; omega)]
    rfl
  · have c : (checkR x != 0) = true := by simp [hc]
    rw [c, if_neg hc]
    rfl
theorem counted_eq (s : Str) (h : s.length ≤ 100000) : ref07_counted s = some (textB s) := by
  unfold ref07_counted
  have h2 := little_eq (s.length : Int) 2 (by omega)
  rw [show ((2 : Nat) : Int) = 2 from rfl] at h2
  rw [h2]
  simp only [Option.bind_some]
  rw [cat_eq (by rw [leB_len]; omega)]
  rfl
end Go.Proofs.Ytglcohgjcjaamaa
