/-
  Plain laws: what Put writes is read back by Get and All. No program in sight.
-/
import Derived.Test.YtglcohgjcjaamaaPi
namespace Go.Proofs.Ytglcohgjcjaamaa
open Go.Rt Go.RowKit

theorem win_mid (a b c : Str) : win (a ++ b ++ c) a.length b.length = b := by
  simp [win]
theorem win_at (s a b c : Str) (k n : Nat) (hs : s = a ++ b ++ c) (hk : a.length = k) (hn : b.length = n) : win s k n = b := by
  subst hs; subst hk; subst hn; exact win_mid a b c
theorem takeT_text (s a t c : Str) (k : Nat) (hs : s = a ++ textB t ++ c) (hk : a.length = k) (ht : t.length < 65536) : takeT s k = some (t, k + 2 + t.length) := by
  have hl : s.length = k + 2 + t.length + c.length := by rw [hs]; simp [textB_len]; omega
  have h1 : win s k 2 = leB (t.length : Int) 2 := win_at s a (leB (t.length : Int) 2) (t ++ c) k 2 (by rw [hs]; simp [textB]) hk (leB_len _ _)
  have h2 : leV (win s k 2) = t.length := by rw [h1]; exact leV_leL 2 t.length (by omega)
  have h3 : win s (k + 2) t.length = t := win_at s (a ++ leB (t.length : Int) 2) t c (k + 2) t.length (by rw [hs]; simp [textB]) (by simp [leB_len, hk]) rfl
  unfold takeT
  rw [h2, h3, if_neg (by omega), if_neg (by omega)]
theorem take4_body (x : api_Dir) (hl : x.Name_.length ≤ 64 ∧ x.Uid_.length ≤ 64 ∧ x.Gid_.length ≤ 64 ∧ x.Muid_.length ≤ 64) : take4 (bodyB x) 47 = some (x.Name_, x.Uid_, x.Gid_, x.Muid_, (bodyB x).length) := by
  have h1 := takeT_text (bodyB x) (numsB x) x.Name_ (textB x.Uid_ ++ textB x.Gid_ ++ textB x.Muid_) 47 (by simp [bodyB]) (numsB_len x) (by omega)
  have h2 := takeT_text (bodyB x) (numsB x ++ textB x.Name_) x.Uid_ (textB x.Gid_ ++ textB x.Muid_) (47 + 2 + x.Name_.length) (by simp [bodyB]) (by simp [numsB_len, textB_len]; omega) (by omega)
  have h3 := takeT_text (bodyB x) (numsB x ++ textB x.Name_ ++ textB x.Uid_) x.Gid_ (textB x.Muid_) (47 + 2 + x.Name_.length + 2 + x.Uid_.length) (by simp [bodyB]) (by simp [numsB_len, textB_len]; omega) (by omega)
  have h4 := takeT_text (bodyB x) (numsB x ++ textB x.Name_ ++ textB x.Uid_ ++ textB x.Gid_) x.Muid_ [] (47 + 2 + x.Name_.length + 2 + x.Uid_.length + 2 + x.Gid_.length) (by simp [bodyB]) (by simp [numsB_len, textB_len]; omega) (by omega)
  unfold take4
  rw [h1]
  simp only
  rw [h2]
  simp only
  rw [h3]
  simp only
  rw [h4]
  simp only [Option.some.injEq, Prod.mk.injEq, true_and]
  rw [bodyB_len]
  omega
theorem dirF_body (x : api_Dir) (h : okNums x = true) (hx : x.ok) : dirF (bodyB x) x.Name_ x.Uid_ x.Gid_ x.Muid_ = x := by
  have b1 := bits_in x.Qid_.Type_ 232 (by omega) hx.2.2.1.1.2
  have b2 := bits_in x.Mode_ 3892314623 (by omega) hx.2.2.2.1.2
  simp only [Int.cast_ofNat_Int] at b1 b2
  unfold okNums at h
  simp only [Bool.and_eq_true] at h
  obtain ⟨⟨⟨⟨⟨⟨⟨⟨o0, o1⟩, o2⟩, o3⟩, o4⟩, o5⟩, o6⟩, o7⟩, o8⟩ := h
  have g0 := numF_leB _ _ 2 (by omega) (by omega) o0 (by omega) (fun _ => by show (65534 : Int) < 2 ^ 16 - 1; omega)
  have g1 := numF_leB _ _ 4 (by omega) (by omega) o1 (by omega) (fun _ => by show (4294967294 : Int) < 2 ^ 32 - 1; omega)
  have g2 := numF_leB _ _ 1 (by omega) (by omega) (b1 o2) (by omega) (fun _ => by show (232 : Int) < 2 ^ 8 - 1; omega)
  have g3 := numF_leB _ _ 4 (by omega) (by omega) o3 (by omega) (fun _ => by show (2147483647 : Int) < 2 ^ 32 - 1; omega)
  have g4 := numF_leB _ _ 8 (by omega) (by omega) o4 (by omega) (fun hh => by omega)
  have g5 := numF_leB _ _ 4 (by omega) (by omega) (b2 o5) (by omega) (fun _ => by show (3892314623 : Int) < 2 ^ 32 - 1; omega)
  have g6 := numF_leB _ _ 8 (by omega) (by omega) o6 (by omega) (fun hh => by omega)
  have g7 := numF_leB _ _ 8 (by omega) (by omega) o7 (by omega) (fun hh => by omega)
  have g8 := numF_leB _ _ 8 (by omega) (by omega) o8 (by omega) (fun hh => by omega)
  let T := textB x.Name_ ++ textB x.Uid_ ++ textB x.Gid_ ++ textB x.Muid_
  have w0 : win (bodyB x) 0 2 = leB x.Type_ 2 := win_at _ [] _ (leB x.Dev_ 4 ++ leB x.Qid_.Type_ 1 ++ leB x.Qid_.Vers_ 4 ++ leB x.Qid_.Path_ 8 ++ leB x.Mode_ 4 ++ leB x.Atime_ 8 ++ leB x.Mtime_ 8 ++ leB x.Length_ 8 ++ T) 0 2 (by simp [bodyB, numsB, T]) rfl (leB_len _ _)
  have w1 : win (bodyB x) 2 4 = leB x.Dev_ 4 := win_at _ (leB x.Type_ 2) _ (leB x.Qid_.Type_ 1 ++ leB x.Qid_.Vers_ 4 ++ leB x.Qid_.Path_ 8 ++ leB x.Mode_ 4 ++ leB x.Atime_ 8 ++ leB x.Mtime_ 8 ++ leB x.Length_ 8 ++ T) 2 4 (by simp [bodyB, numsB, T]) (by simp [leB_len]) (leB_len _ _)
  have w2 : win (bodyB x) 6 1 = leB x.Qid_.Type_ 1 := win_at _ (leB x.Type_ 2 ++ leB x.Dev_ 4) _ (leB x.Qid_.Vers_ 4 ++ leB x.Qid_.Path_ 8 ++ leB x.Mode_ 4 ++ leB x.Atime_ 8 ++ leB x.Mtime_ 8 ++ leB x.Length_ 8 ++ T) 6 1 (by simp [bodyB, numsB, T]) (by simp [leB_len]) (leB_len _ _)
  have w3 : win (bodyB x) 7 4 = leB x.Qid_.Vers_ 4 := win_at _ (leB x.Type_ 2 ++ leB x.Dev_ 4 ++ leB x.Qid_.Type_ 1) _ (leB x.Qid_.Path_ 8 ++ leB x.Mode_ 4 ++ leB x.Atime_ 8 ++ leB x.Mtime_ 8 ++ leB x.Length_ 8 ++ T) 7 4 (by simp [bodyB, numsB, T]) (by simp [leB_len]) (leB_len _ _)
  have w4 : win (bodyB x) 11 8 = leB x.Qid_.Path_ 8 := win_at _ (leB x.Type_ 2 ++ leB x.Dev_ 4 ++ leB x.Qid_.Type_ 1 ++ leB x.Qid_.Vers_ 4) _ (leB x.Mode_ 4 ++ leB x.Atime_ 8 ++ leB x.Mtime_ 8 ++ leB x.Length_ 8 ++ T) 11 8 (by simp [bodyB, numsB, T]) (by simp [leB_len]) (leB_len _ _)
  have w5 : win (bodyB x) 19 4 = leB x.Mode_ 4 := win_at _ (leB x.Type_ 2 ++ leB x.Dev_ 4 ++ leB x.Qid_.Type_ 1 ++ leB x.Qid_.Vers_ 4 ++ leB x.Qid_.Path_ 8) _ (leB x.Atime_ 8 ++ leB x.Mtime_ 8 ++ leB x.Length_ 8 ++ T) 19 4 (by simp [bodyB, numsB, T]) (by simp [leB_len]) (leB_len _ _)
  have w6 : win (bodyB x) 23 8 = leB x.Atime_ 8 := win_at _ (leB x.Type_ 2 ++ leB x.Dev_ 4 ++ leB x.Qid_.Type_ 1 ++ leB x.Qid_.Vers_ 4 ++ leB x.Qid_.Path_ 8 ++ leB x.Mode_ 4) _ (leB x.Mtime_ 8 ++ leB x.Length_ 8 ++ T) 23 8 (by simp [bodyB, numsB, T]) (by simp [leB_len]) (leB_len _ _)
  have w7 : win (bodyB x) 31 8 = leB x.Mtime_ 8 := win_at _ (leB x.Type_ 2 ++ leB x.Dev_ 4 ++ leB x.Qid_.Type_ 1 ++ leB x.Qid_.Vers_ 4 ++ leB x.Qid_.Path_ 8 ++ leB x.Mode_ 4 ++ leB x.Atime_ 8) _ (leB x.Length_ 8 ++ T) 31 8 (by simp [bodyB, numsB, T]) (by simp [leB_len]) (leB_len _ _)
  have w8 : win (bodyB x) 39 8 = leB x.Length_ 8 := win_at _ (leB x.Type_ 2 ++ leB x.Dev_ 4 ++ leB x.Qid_.Type_ 1 ++ leB x.Qid_.Vers_ 4 ++ leB x.Qid_.Path_ 8 ++ leB x.Mode_ 4 ++ leB x.Atime_ 8 ++ leB x.Mtime_ 8) _ T 39 8 (by simp [bodyB, numsB, T]) (by simp [leB_len]) (leB_len _ _)
  unfold dirF
  rw [w0, w1, w2, w3, w4, w5, w6, w7, w8, g0, g1, g2, g3, g4, g5, g6, g7, g8]
/-- What Put writes is read back, whatever stands before and after it. -/
theorem getR_put (p q : Str) (x : api_Dir) (hx : x.ok) (hc : checkR x = 0) : getR (p ++ putB x ++ q) p.length = (x, ((p.length + (putB x).length : Nat) : Int), 0) := by
  obtain ⟨hN, hT⟩ := checkR_zero x hc
  have htl := texts_len x hT
  have hbl := bodyB_len x
  have hpl := putB_len x
  have h1 : win (p ++ putB x ++ q) p.length 2 = leB ((bodyB x).length : Int) 2 := win_at _ p _ (bodyB x ++ q) _ _ (by simp [putB]) rfl (leB_len _ _)
  have h2 : leV (win (p ++ putB x ++ q) p.length 2) = (bodyB x).length := by rw [h1]; exact leV_leL 2 _ (by omega)
  have h3 : win (p ++ putB x ++ q) (p.length + 2) (bodyB x).length = bodyB x := win_at _ (p ++ leB ((bodyB x).length : Int) 2) _ q _ _ (by simp [putB]) (by simp [leB_len]) rfl
  have hl : (p ++ putB x ++ q).length = p.length + (putB x).length + q.length := by simp; omega
  unfold getR
  rw [h2, h3, if_neg (by omega), if_neg (by omega), if_neg (by omega), take4_body x htl]
  simp only
  rw [if_pos trivial, dirF_body x hN hx, if_pos hc, show p.length + 2 + (bodyB x).length = p.length + (putB x).length by omega]
theorem StatReturns_true (x0 : api_Dir) (x1 x2 : Str) (h0 : x0.ok) (_ : x1.length ≤ 9223372036854775807) (_ : x2.length ≤ 9223372036854775807) : law07_StatReturns x0 x1 x2 = some true := by
  have hname : x0.Name_.length ≤ 9223372036854775807 := h0.2.2.2.2.2.2.2.1
  have hB : BIG = 18446744073709551616 := rfl
  unfold law07_StatReturns
  by_cases hl : x1.length > 200 ∨ x2.length > 200
  · refine bind_eq (a := true) (cond_t ?_ rfl) ?_
    · simp only [Bool.or_eq_true, decide_eq_true_eq]; omega
    · exact cond_t rfl (bind_eq awake07 rfl)
  · have hl1 : (decide ((x1.length : Int) > 200) || decide ((x2.length : Int) > 200)) = false := by
      simp only [Bool.or_eq_false_iff, decide_eq_false_iff_not]; omega
    by_cases hc : checkR x0 = 0
    · have htl := texts_len x0 (checkR_zero x0 hc).2
      have hpl := putB_len x0
      refine bind_eq (a := false) (cond_f hl1 (bind_eq (refcheck_eq x0 hname) (by rw [hc]; rfl))) ?_
      refine cond_f rfl ?_
      have hp := put_eq x0 h0 hname
      unfold putR at hp
      rw [if_pos hc] at hp
      refine bind_eq hp ?_
      refine bind_eq (show cat x1 (putB x0) = some (x1 ++ putB x0) from cat_eq (by omega)) ?_
      refine bind_eq (show cat (x1 ++ putB x0) x2 = some (x1 ++ putB x0 ++ x2) from cat_eq (by rw [List.length_append]; omega)) ?_
      have hg := stat_get_eq (x1 ++ putB x0 ++ x2) x1.length (by simp) (by simp; omega)
      rw [getR_put x1 x2 x0 h0 hc] at hg
      refine bind_eq hg ?_
      have hw : w64 ((x1.length : Int) + ((putB x0).length : Int)) = ((x1.length + (putB x0).length : Nat) : Int) := by rw [w64_eq ⟨by omega, by omega⟩]; omega
      refine bind_eq (a := true) (cond_t ?_ (bind_eq awake07 rfl)) rfl
      show ((((0 : Int) == 0) && ((0 : Int) == 0) && decide (x0 = x0)) && (((x1.length + (putB x0).length : Nat) : Int) == w64 ((x1.length : Int) + ((putB x0).length : Int)))) = true
      rw [hw]
      simp
    · refine bind_eq (a := true) (cond_f hl1 (bind_eq (refcheck_eq x0 hname) (by simp [hc]))) ?_
      exact cond_t rfl (bind_eq awake07 rfl)

/-! ### Several -/
def putsB (xs : List api_Dir) : Str := (xs.map putB).flatten
theorem allR_puts : ∀ (xs : List api_Dir) (pre : Str) (acc : List api_Dir) (k : Nat), (∀ x ∈ xs, x.ok ∧ checkR x = 0) → xs.length < k → allR (pre ++ putsB xs) k pre.length acc = (acc ++ xs, 0)
  | [], pre, acc, k + 1, _, _ => by
    unfold allR
    rw [if_neg (by simp [putsB])]
    simp
  | x :: xs, pre, acc, k + 1, h, hk => by
    have hx := h x (by simp)
    have e : pre ++ putsB (x :: xs) = pre ++ putB x ++ putsB xs := by simp [putsB]
    have hpl := putB_len x
    unfold allR
    rw [e, getR_put pre (putsB xs) x hx.1 hx.2]
    rw [if_pos (by simp only [List.length_append]; omega), if_pos rfl]
    have ih := allR_puts xs (pre ++ putB x) (acc ++ [x]) k (fun y hy => h y (List.mem_cons_of_mem _ hy)) (by simp at hk; omega)
    rw [List.length_append] at ih
    show allR (pre ++ putB x ++ putsB xs) k ((pre.length + (putB x).length : Nat) : Int).toNat (acc ++ [x]) = _
    rw [Int.toNat_natCast, ih]
    simp
theorem putsB_len (xs : List api_Dir) (h : ∀ x ∈ xs, checkR x = 0) : xs.length ≤ (putsB xs).length ∧ (putsB xs).length ≤ 400 * xs.length := by
  induction xs with
  | nil => simp [putsB]
  | cons x xs ih =>
    have hi := ih (fun y hy => h y (List.mem_cons_of_mem _ hy))
    have htl := texts_len x (checkR_zero x (h x (by simp))).2
    have hpl := putB_len x
    have e : (putsB (x :: xs)).length = (putB x).length + (putsB xs).length := by simp [putsB]
    rw [e, List.length_cons]
    omega
theorem stat_all_puts (xs : List api_Dir) (h : ∀ x ∈ xs, x.ok ∧ checkR x = 0) (hl : xs.length ≤ 200) : stat_All (putsB xs) = some (xs, 0) := by
  have hp := putsB_len xs (fun x hx => (h x hx).2)
  rw [stat_all_eq _ (by omega)]
  have := allR_puts xs [] [] ((putsB xs).length + 1) h (by omega)
  simpa using this
theorem joins_loop (xs : List api_Dir) (hok : ∀ x ∈ xs, x.ok) (hl : xs.length ≤ 20) :
    loopF (law07_StatJoins_L1 xs) BIG ([], 0) = some (if xs.all (fun x => checkR x == 0) then .fall (putsB xs) else .ret true) := by
  have hB : BIG = 18446744073709551616 := rfl
  refine loopF_up (J := fun i s b => s = (putsB (xs.take i), (i : Int)) ∧ (∀ x ∈ xs.take i, checkR x = 0) ∧ b = if (xs.drop i).all (fun x => checkR x == 0) then .fall (putsB xs) else .ret true) xs.length (by omega) (fun s b hJ => ?_) (fun i s b hi hJ => ?_) (by simp [putsB])
  · obtain ⟨rfl, _, rfl⟩ := hJ
    unfold law07_StatJoins_L1
    refine cond_f (by simp) ?_
    simp
  · obtain ⟨rfl, hz, rfl⟩ := hJ
    have hx := hok xs[i] (List.getElem_mem hi)
    have hname : xs[i].Name_.length ≤ 9223372036854775807 := hx.2.2.2.2.2.2.2.1
    rw [List.drop_eq_getElem_cons hi, List.all_cons]
    by_cases hc : checkR xs[i] = 0
    · refine .inr ⟨(putsB (xs.take (i + 1)), ((i + 1 : Nat) : Int)), ?_, rfl, ?_, ?_⟩
      · have htl := texts_len xs[i] (checkR_zero xs[i] hc).2
        have hpl := putB_len xs[i]
        have hpp := putsB_len (xs.take i) hz
        have htk : (xs.take i).length ≤ 20 := by simp; omega
        unfold law07_StatJoins_L1
        refine cond_t (by simp only [decide_eq_true_eq]; omega) ?_
        refine bind_eq (getI_lt hi) ?_
        refine bind_eq (refcheck_eq _ hname) ?_
        refine cond_f (by simp [hc]) ?_
        refine bind_eq (getI_lt hi) ?_
        have hp := put_eq xs[i] hx hname
        unfold putR at hp
        rw [if_pos hc] at hp
        refine bind_eq hp ?_
        refine cond_f ?_ ?_
        · show (((0 : Int) != 0) || decide (((putB xs[i]).length : Int) > 400)) = false
          simp only [Bool.or_eq_false_iff, bne_self_eq_false, decide_eq_false_iff_not, true_and]
          omega
        refine bind_eq (cat_eq (by show (putsB (xs.take i)).length + (putB xs[i]).length ≤ _; omega)) ?_
        rw [w64_eq (n := (i : Int) + 1) ⟨by omega, by omega⟩]
        have e : putsB (xs.take (i + 1)) = putsB (xs.take i) ++ putB xs[i] := by
          rw [List.take_add_one, List.getElem?_eq_getElem hi]
          simp only [putsB, List.map_append, List.flatten_append, Option.toList_some, List.map_cons, List.map_nil, List.flatten_cons, List.flatten_nil, List.append_nil]
        rw [e]
        rfl
      · intro x hxm
        rw [List.take_add_one, List.getElem?_eq_getElem hi, List.mem_append] at hxm
        rcases hxm with hxm | hxm
        · exact hz x hxm
        · simp at hxm; subst hxm; exact hc
      · simp [hc]
    · refine .inl ?_
      unfold law07_StatJoins_L1
      refine cond_t (by simp only [decide_eq_true_eq]; omega) ?_
      refine bind_eq (getI_lt hi) ?_
      refine bind_eq (refcheck_eq _ hname) ?_
      refine cond_t (by simp [hc]) ?_
      refine bind_eq awake07 ?_
      simp [hc]
theorem StatJoins_true (x0 : List api_Dir) (h0 : ∀ x ∈ x0, x.ok) (_ : x0.length ≤ 9223372036854775807) : law07_StatJoins x0 = some true := by
  unfold law07_StatJoins
  by_cases hl : x0.length > 20
  · exact cond_t (by simp only [decide_eq_true_eq]; omega) (bind_eq awake07 rfl)
  · refine cond_f (by simp only [decide_eq_false_iff_not]; omega) ?_
    refine bind_eq (joins_loop x0 h0 (by omega)) ?_
    cases ha : x0.all (fun x => checkR x == 0) with
    | false => rfl
    | true =>
      have hz : ∀ x ∈ x0, x.ok ∧ checkR x = 0 := fun x hx => ⟨h0 x hx, by simpa using List.all_eq_true.1 ha x hx⟩
      refine bind_eq (stat_all_puts x0 hz (by omega)) ?_
      refine bind_eq (a := true) (cond_t rfl (bind_eq (equal_same x0 (by omega)) rfl)) ?_
      refine bind_eq (a := true) (cond_t rfl (bind_eq awake07 rfl)) rfl
end Go.Proofs.Ytglcohgjcjaamaa
