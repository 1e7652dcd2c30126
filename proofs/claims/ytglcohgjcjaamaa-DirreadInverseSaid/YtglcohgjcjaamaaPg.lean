/-
  Plain laws: stat.Get is its reference. No program in sight.
-/
import Derived.Test.YtglcohgjcjaamaaPf
namespace Go.Proofs.Ytglcohgjcjaamaa
open Go.Rt Go.RowKit

theorem loop_next {σ β : Type} {body : σ → Option (Step σ β)} {n : Nat} {s s' : σ} {r : Option β} (h : body s = some (.next s')) (hr : loopF body n s' = r) : loopF body (n + 1) s = r := by
  simp only [loopF, h]; exact hr
theorem loop_done {σ β : Type} {body : σ → Option (Step σ β)} {n : Nat} {s : σ} {b : β} (h : body s = some (.done b)) : loopF body (n + 1) s = some b := by
  simp only [loopF, h]

/-! ### Texts -/
/-- The text at an offset, and the offset behind it. -/
def takeT (s : Str) (a : Nat) : Option (Str × Nat) :=
  if s.length < a + 2 then none else if s.length < a + 2 + leV (win s a 2) then none else some (win s (a + 2) (leV (win s a 2)), a + 2 + leV (win s a 2))
theorem takeT_le {s t : Str} {a p : Nat} (h : takeT s a = some (t, p)) : p ≤ s.length ∧ t.length ≤ s.length ∧ a + 2 ≤ p := by
  unfold takeT at h
  split at h
  · cases h
  · split at h
    · cases h
    · rename_i h1 h2
      simp only [Option.some.injEq, Prod.mk.injEq] at h
      obtain ⟨rfl, rfl⟩ := h
      refine ⟨by omega, ?_, by omega⟩
      rw [win_len (by omega)]; omega
theorem two_bytes (s : Str) (a : Nat) (h : a + 2 ≤ s.length) : leV (win s a 2) = (s[a]'(by omega)).toNat + 256 * (s[a + 1]'(by omega)).toNat := by
  have e : win s a 2 = [s[a]'(by omega), s[a + 1]'(by omega)] := by
    unfold win
    rw [List.drop_eq_getElem_cons (by omega), List.drop_eq_getElem_cons (by omega)]
    rfl
  rw [e]
  simp [leV]
theorem leV_two (s : Str) (a : Nat) (h : a + 2 ≤ s.length) : leV (win s a 2) < 65536 := by
  have := leV_lt (win s a 2)
  rw [win_len h] at this
  exact this
theorem gettext_eq (s : Str) (a : Nat) (h : a ≤ s.length) (hs : s.length ≤ 1000000) : octet_GetText s (a : Int) = some (match takeT s a with | none => ([], 0, 3) | some (t, p) => (t, (p : Int), 0)) := by
  unfold octet_GetText
  have hg := get_eq s a 2 (by omega) (by omega) h (by omega)
  rw [show ((2 : Nat) : Int) = 2 from rfl] at hg
  unfold takeT
  by_cases h2 : s.length < a + 2
  · rw [if_pos (by omega)] at hg
    rw [if_pos h2]
    refine bind_eq hg ?_
    exact cond_t rfl rfl
  · have hv := leV_two s a (by omega)
    rw [if_neg (by omega), if_neg (by omega)] at hg
    rw [if_neg h2]
    refine bind_eq hg ?_
    refine cond_f rfl ?_
    have ew : w64 ((s.length : Int) - ((a + 2 : Nat) : Int)) = ((s.length - (a + 2) : Nat) : Int) := by rw [w64_eq ⟨by omega, by omega⟩]; omega
    have ex : w64 (((a + 2 : Nat) : Int) + (leV (win s a 2) : Int)) = ((a + 2 + leV (win s a 2) : Nat) : Int) := by rw [w64_eq ⟨by omega, by omega⟩]; omega
    by_cases h3 : s.length < a + 2 + leV (win s a 2)
    · rw [if_pos h3]
      refine cond_t ?_ rfl
      show decide (w64 ((s.length : Int) - ((a + 2 : Nat) : Int)) < (leV (win s a 2) : Int)) = true
      rw [ew]; simp only [decide_eq_true_eq]; omega
    · rw [if_neg h3]
      refine cond_f ?_ ?_
      · show decide (w64 ((s.length : Int) - ((a + 2 : Nat) : Int)) < (leV (win s a 2) : Int)) = false
        rw [ew]; simp only [decide_eq_false_iff_not]; omega
      refine bind_eq (win_sub s (a + 2) (leV (win s a 2)) (by omega) (by omega)) ?_
      show some (_, w64 (((a + 2 : Nat) : Int) + (leV (win s a 2) : Int)), (0 : Int)) = _
      rw [ex]
theorem reader_text_ok (s : Str) (a : Nat) (h : a ≤ s.length) (hs : s.length ≤ 1000000) :
    stat_reader_text ⟨s, (a : Int), true⟩ = some (match takeT s a with | none => ([], ⟨s, (a : Int), false⟩) | some (t, p) => (t, ⟨s, (p : Int), true⟩)) := by
  unfold stat_reader_text
  refine cond_f rfl ?_
  refine bind_eq (gettext_eq s a h hs) ?_
  cases takeT s a with
  | none => exact cond_t rfl rfl
  | some x => exact cond_f rfl rfl
theorem reader_text_no (s : Str) (a : Int) : stat_reader_text ⟨s, a, false⟩ = some ([], ⟨s, a, false⟩) := by
  unfold stat_reader_text
  exact cond_t rfl rfl
theorem reader_number_no (s : Str) (a w : Int) : stat_reader_number ⟨s, a, false⟩ w = some (0, ⟨s, a, false⟩) := by
  unfold stat_reader_number
  exact cond_t rfl rfl
theorem reader_number_short (s : Str) (a w : Nat) (h : a ≤ s.length) (hw : s.length < a + w) (hs : s.length ≤ 1000000) : stat_reader_number ⟨s, (a : Int), true⟩ (w : Int) = some (0, ⟨s, (a : Int), false⟩) := by
  unfold stat_reader_number
  refine cond_t ?_ rfl
  show (!true || decide (w64 ((s.length : Int) - (a : Int)) < (w : Int))) = true
  rw [w64_eq ⟨by omega, by omega⟩]
  simp; omega
theorem reader_number_any (s : Str) (a w : Nat) (ok : Bool) (h1 : 1 ≤ w) (h8 : w ≤ 8) (h : a ≤ s.length) (hs : s.length ≤ 1000000) :
    ∃ (v : Int) (a' : Nat) (ok' : Bool), stat_reader_number ⟨s, (a : Int), ok⟩ (w : Int) = some (v, ⟨s, (a' : Int), ok'⟩) ∧ a' ≤ s.length ∧ (ok' = true → ok = true ∧ a' = a + w) := by
  cases ok with
  | false => exact ⟨0, a, false, reader_number_no s a w, h, fun hh => by cases hh⟩
  | true =>
    by_cases hw : s.length < a + w
    · exact ⟨0, a, false, reader_number_short s a w h hw hs, h, fun hh => by cases hh⟩
    · exact ⟨_, a + w, true, reader_number_eq s a w h1 h8 (by omega) (by omega), by omega, fun _ => ⟨rfl, rfl⟩⟩
theorem reader_text_any (s : Str) (a : Nat) (ok : Bool) (h : a ≤ s.length) (hs : s.length ≤ 1000000) :
    ∃ (t : Str) (a' : Nat) (ok' : Bool), stat_reader_text ⟨s, (a : Int), ok⟩ = some (t, ⟨s, (a' : Int), ok'⟩) ∧ a' ≤ s.length ∧ (ok' = true → ok = true) := by
  cases ok with
  | false => exact ⟨[], a, false, reader_text_no s a, h, fun hh => by cases hh⟩
  | true =>
    have ht := reader_text_ok s a h hs
    cases hk : takeT s a with
    | none => rw [hk] at ht; exact ⟨[], a, false, ht, h, fun hh => by cases hh⟩
    | some x => rw [hk] at ht; exact ⟨x.1, x.2, true, ht, (takeT_le hk).1, fun _ => rfl⟩
/-- A description that is too short. -/
theorem read_short (s : Str) (hs : s.length < 47) : ∃ d at_, stat_reader_read ⟨s, 0, true⟩ = some (d, ⟨s, at_, false⟩) := by
  have hl : s.length ≤ 1000000 := by omega
  obtain ⟨v1, a1, k1, e1, b1, o1⟩ := reader_number_any s 0 2 true (by omega) (by omega) (by omega) hl
  obtain ⟨v2, a2, k2, e2, b2, o2⟩ := reader_number_any s a1 4 k1 (by omega) (by omega) b1 hl
  obtain ⟨v3, a3, k3, e3, b3, o3⟩ := reader_number_any s a2 1 k2 (by omega) (by omega) b2 hl
  obtain ⟨v4, a4, k4, e4, b4, o4⟩ := reader_number_any s a3 4 k3 (by omega) (by omega) b3 hl
  obtain ⟨v5, a5, k5, e5, b5, o5⟩ := reader_number_any s a4 8 k4 (by omega) (by omega) b4 hl
  obtain ⟨v6, a6, k6, e6, b6, o6⟩ := reader_number_any s a5 4 k5 (by omega) (by omega) b5 hl
  obtain ⟨v7, a7, k7, e7, b7, o7⟩ := reader_number_any s a6 8 k6 (by omega) (by omega) b6 hl
  obtain ⟨v8, a8, k8, e8, b8, o8⟩ := reader_number_any s a7 8 k7 (by omega) (by omega) b7 hl
  obtain ⟨v9, a9, k9, e9, b9, o9⟩ := reader_number_any s a8 8 k8 (by omega) (by omega) b8 hl
  obtain ⟨t1, c1, q1, f1, d1, p1⟩ := reader_text_any s a9 k9 b9 hl
  obtain ⟨t2, c2, q2, f2, d2, p2⟩ := reader_text_any s c1 q1 d1 hl
  obtain ⟨t3, c3, q3, f3, d3, p3⟩ := reader_text_any s c2 q2 d2 hl
  obtain ⟨t4, c4, q4, f4, d4, p4⟩ := reader_text_any s c3 q3 d3 hl
  have hq : q4 = false := by
    cases hq : q4 with
    | false => rfl
    | true =>
      have g9 := p1 (p2 (p3 (p4 hq)))
      obtain ⟨g8, r9⟩ := o9 g9
      obtain ⟨g7, r8⟩ := o8 g8
      obtain ⟨g6, r7⟩ := o7 g7
      obtain ⟨g5, r6⟩ := o6 g6
      obtain ⟨g4, r5⟩ := o5 g5
      obtain ⟨g3, r4⟩ := o4 g4
      obtain ⟨g2, r3⟩ := o3 g3
      obtain ⟨g1, r2⟩ := o2 g2
      obtain ⟨_, r1⟩ := o1 g1
      omega
  subst hq
  refine ⟨⟨v1, v2, ⟨v3, v4, v5⟩, v6, v7, v8, v9, t1, t2, t3, t4⟩, (c4 : Int), ?_⟩
  unfold stat_reader_read
  refine bind_eq e1 ?_
  refine bind_eq e2 ?_
  refine bind_eq e3 ?_
  refine bind_eq e4 ?_
  refine bind_eq e5 ?_
  refine bind_eq e6 ?_
  refine bind_eq e7 ?_
  refine bind_eq e8 ?_
  refine bind_eq e9 ?_
  refine bind_eq f1 ?_
  refine bind_eq f2 ?_
  refine bind_eq f3 ?_
  refine bind_eq f4 ?_
  rfl
/-- Four texts in a row, and the offset behind them. -/
def take4 (s : Str) (a : Nat) : Option (Str × Str × Str × Str × Nat) :=
  match takeT s a with
  | none => none
  | some (t1, p1) => match takeT s p1 with
    | none => none
    | some (t2, p2) => match takeT s p2 with
      | none => none
      | some (t3, p3) => match takeT s p3 with
        | none => none
        | some (t4, p4) => some (t1, t2, t3, t4, p4)
def dirR (s t1 t2 t3 t4 : Str) : api_Dir := ⟨numR (win s 0 2), numR (win s 2 4), ⟨numR (win s 6 1), numR (win s 7 4), numR (win s 11 8)⟩, numR (win s 19 4), numR (win s 23 8), numR (win s 31 8), numR (win s 39 8), t1, t2, t3, t4⟩
def dirF (s t1 t2 t3 t4 : Str) : api_Dir := ⟨numF (win s 0 2), numF (win s 2 4), ⟨numF (win s 6 1), numF (win s 7 4), numF (win s 11 8)⟩, numF (win s 19 4), numF (win s 23 8), numF (win s 31 8), numF (win s 39 8), t1, t2, t3, t4⟩
theorem read_long (s : Str) (hs : 47 ≤ s.length) (hl : s.length ≤ 1000000) : match take4 s 47 with
    | some (t1, t2, t3, t4, p) => stat_reader_read ⟨s, 0, true⟩ = some (dirR s t1 t2 t3 t4, ⟨s, (p : Int), true⟩)
    | none => ∃ d at_, stat_reader_read ⟨s, 0, true⟩ = some (d, ⟨s, at_, false⟩) := by
  have e1 := reader_number_eq s 0 2 (by omega) (by omega) (by omega) (by omega)
  have e2 := reader_number_eq s 2 4 (by omega) (by omega) (by omega) (by omega)
  have e3 := reader_number_eq s 6 1 (by omega) (by omega) (by omega) (by omega)
  have e4 := reader_number_eq s 7 4 (by omega) (by omega) (by omega) (by omega)
  have e5 := reader_number_eq s 11 8 (by omega) (by omega) (by omega) (by omega)
  have e6 := reader_number_eq s 19 4 (by omega) (by omega) (by omega) (by omega)
  have e7 := reader_number_eq s 23 8 (by omega) (by omega) (by omega) (by omega)
  have e8 := reader_number_eq s 31 8 (by omega) (by omega) (by omega) (by omega)
  have e9 := reader_number_eq s 39 8 (by omega) (by omega) (by omega) (by omega)
  have key : ∀ (t1 t2 t3 t4 : Str) (r1 r2 r3 r4 : stat_reader), stat_reader_text ⟨s, ((47 : Nat) : Int), true⟩ = some (t1, r1) → stat_reader_text r1 = some (t2, r2) → stat_reader_text r2 = some (t3, r3) → stat_reader_text r3 = some (t4, r4) →
      stat_reader_read ⟨s, 0, true⟩ = some (dirR s t1 t2 t3 t4, r4) := by
    intro t1 t2 t3 t4 r1 r2 r3 r4 f1 f2 f3 f4
    unfold stat_reader_read
    refine bind_eq e1 ?_
    refine bind_eq e2 ?_
    refine bind_eq e3 ?_
    refine bind_eq e4 ?_
    refine bind_eq e5 ?_
    refine bind_eq e6 ?_
    refine bind_eq e7 ?_
    refine bind_eq e8 ?_
    refine bind_eq e9 ?_
    refine bind_eq f1 ?_
    refine bind_eq f2 ?_
    refine bind_eq f3 ?_
    refine bind_eq f4 ?_
    rfl
  have ht1 := reader_text_ok s 47 (by omega) hl
  unfold take4
  cases h1 : takeT s 47 with
  | none =>
    rw [h1] at ht1
    exact ⟨_, _, key _ _ _ _ _ _ _ _ ht1 (reader_text_no _ _) (reader_text_no _ _) (reader_text_no _ _)⟩
  | some x1 =>
    obtain ⟨t1, p1⟩ := x1
    rw [h1] at ht1
    have l1 := (takeT_le h1).1
    have ht2 := reader_text_ok s p1 l1 hl
    simp only
    cases h2 : takeT s p1 with
    | none =>
      rw [h2] at ht2
      exact ⟨_, _, key _ _ _ _ _ _ _ _ ht1 ht2 (reader_text_no _ _) (reader_text_no _ _)⟩
    | some x2 =>
      obtain ⟨t2, p2⟩ := x2
      rw [h2] at ht2
      have l2 := (takeT_le h2).1
      have ht3 := reader_text_ok s p2 l2 hl
      simp only
      cases h3 : takeT s p2 with
      | none =>
        rw [h3] at ht3
        exact ⟨_, _, key _ _ _ _ _ _ _ _ ht1 ht2 ht3 (reader_text_no _ _)⟩
      | some x3 =>
        obtain ⟨t3, p3⟩ := x3
        rw [h3] at ht3
        have l3 := (takeT_le h3).1
        have ht4 := reader_text_ok s p3 l3 hl
        simp only
        cases h4 : takeT s p3 with
        | none =>
          rw [h4] at ht4
          exact ⟨_, _, key _ _ _ _ _ _ _ _ ht1 ht2 ht3 ht4⟩
        | some x4 =>
          obtain ⟨t4, p4⟩ := x4
          rw [h4] at ht4
          exact key _ _ _ _ _ _ _ _ ht1 ht2 ht3 ht4

/-! ### The reference's texts -/
theorem texts_body (s : Str) (arr : Arr4_string) (a i : Nat) (hi : i < 4) (h : a ≤ s.length) (hs : s.length ≤ 1000000) :
    ref07_texts_L1 s (arr, (a : Int), (i : Int)) = match takeT s a with
      | none => some (.done (.ret (arr, false)))
      | some (t, p) => some (.next (arr.put (i : Int) t, (p : Int), ((i + 1 : Nat) : Int))) := by
  unfold ref07_texts_L1 takeT
  refine cond_t (by simp; omega) ?_
  have e1 : w64 ((s.length : Int) - (a : Int)) = ((s.length - a : Nat) : Int) := by rw [w64_eq ⟨by omega, by omega⟩]; omega
  by_cases h2 : s.length < a + 2
  · rw [if_pos h2]
    refine cond_t ?_ rfl
    show decide (w64 ((s.length : Int) - (a : Int)) < 2) = true
    rw [e1]; simp only [decide_eq_true_eq]; omega
  · rw [if_neg h2]
    refine cond_f ?_ ?_
    · show decide (w64 ((s.length : Int) - (a : Int)) < 2) = false
      rw [e1]; simp only [decide_eq_false_iff_not]; omega
    have b1 := byteI_lt (s := s) (i := a) (by omega)
    have b2 := byteI_lt (s := s) (i := a + 1) (by omega)
    have hv := two_bytes s a (by omega)
    have hv2 := leV_two s a (by omega)
    generalize s[a]'(by omega) = y1 at b1 hv
    generalize s[a + 1]'(by omega) = y2 at b2 hv
    have g1 := y1.toNat_lt
    have g2 := y2.toNat_lt
    have ea : w64 ((a : Int) + 1) = ((a + 1 : Nat) : Int) := by rw [w64_eq ⟨by omega, by omega⟩]; omega
    have en : w64 (IntKind.i64.wrap (y1.toNat : Int) + w64 (256 * IntKind.i64.wrap (y2.toNat : Int))) = (leV (win s a 2) : Int) := by
      rw [wi64_eq (n := (y1.toNat : Int)) ⟨by omega, by omega⟩, wi64_eq (n := (y2.toNat : Int)) ⟨by omega, by omega⟩, w64_eq (n := 256 * (y2.toNat : Int)) ⟨by omega, by omega⟩, w64_eq ⟨by omega, by omega⟩, hv]
      omega
    refine bind_eq b1 ?_
    show Option.bind (byteI s (w64 ((a : Int) + 1))) _ = _
    rw [ea]
    refine bind_eq b2 ?_
    show (bif decide (w64 (w64 ((s.length : Int) - (a : Int)) - 2) < w64 (IntKind.i64.wrap (y1.toNat : Int) + w64 (256 * IntKind.i64.wrap (y2.toNat : Int)))) then _ else _) = _
    rw [en, e1]
    have e3 : w64 (((s.length - a : Nat) : Int) - 2) = ((s.length - a - 2 : Nat) : Int) := by rw [w64_eq ⟨by omega, by omega⟩]; omega
    rw [e3]
    by_cases h3 : s.length < a + 2 + leV (win s a 2)
    · rw [if_pos h3]
      exact cond_t (by simp only [decide_eq_true_eq]; omega) rfl
    · rw [if_neg h3]
      refine cond_f (by simp only [decide_eq_false_iff_not]; omega) ?_
      have e4 : w64 ((a : Int) + 2) = ((a + 2 : Nat) : Int) := by rw [w64_eq ⟨by omega, by omega⟩]; omega
      have e5 : w64 (((a + 2 : Nat) : Int) + (leV (win s a 2) : Int)) = ((a + 2 + leV (win s a 2) : Nat) : Int) := by rw [w64_eq ⟨by omega, by omega⟩]; omega
      have hsub := win_sub s (a + 2) (leV (win s a 2)) (by omega) (by omega)
      show Option.bind (subI s (w64 ((a : Int) + 2)) (w64 (w64 ((a : Int) + 2) + (leV (win s a 2) : Int)))) _ = _
      rw [e4]
      refine bind_eq hsub ?_
      refine bind_eq (a := ()) (show boundI 4 (i : Int) = some () by unfold boundI; rw [if_pos (by omega)]) ?_
      show some (Step.next (arr.put (i : Int) (win s (a + 2) (leV (win s a 2))), w64 (((a + 2 : Nat) : Int) + (leV (win s a 2) : Int)), w64 ((i : Int) + 1))) = _
      rw [e5, w64_eq (n := (i : Int) + 1) ⟨by omega, by omega⟩]
      rfl
theorem texts_eq (s : Str) (hs : s.length ≤ 1000000) : match take4 s 0 with
    | some (t1, t2, t3, t4, p) => ref07_texts s = some (⟨t1, t2, t3, t4⟩, (p : Int) == (s.length : Int))
    | none => ∃ arr, ref07_texts s = some (arr, false) := by
  have hB : BIG = 18446744073709551611 + 1 + 1 + 1 + 1 + 1 := rfl
  unfold ref07_texts take4
  rw [hB]
  let z : Arr4_string := ⟨[], [], [], []⟩
  have b0 := texts_body s z 0 0 (by omega) (by omega) hs
  cases h1 : takeT s 0 with
  | none =>
    rw [h1] at b0
    exact ⟨_, bind_eq (loop_done b0) rfl⟩
  | some x1 =>
    obtain ⟨t1, p1⟩ := x1
    rw [h1] at b0
    have b1 := texts_body s (z.put 0 t1) p1 1 (by omega) (takeT_le h1).1 hs
    simp only
    cases h2 : takeT s p1 with
    | none =>
      rw [h2] at b1
      exact ⟨_, bind_eq (loop_next b0 (loop_done b1)) rfl⟩
    | some x2 =>
      obtain ⟨t2, p2⟩ := x2
      rw [h2] at b1
      have b2 := texts_body s ((z.put 0 t1).put 1 t2) p2 2 (by omega) (takeT_le h2).1 hs
      simp only
      cases h3 : takeT s p2 with
      | none =>
        rw [h3] at b2
        exact ⟨_, bind_eq (loop_next b0 (loop_next b1 (loop_done b2))) rfl⟩
      | some x3 =>
        obtain ⟨t3, p3⟩ := x3
        rw [h3] at b2
        have b3 := texts_body s (((z.put 0 t1).put 1 t2).put 2 t3) p3 3 (by omega) (takeT_le h3).1 hs
        simp only
        cases h4 : takeT s p3 with
        | none =>
          rw [h4] at b3
          exact ⟨_, bind_eq (loop_next b0 (loop_next b1 (loop_next b2 (loop_done b3)))) rfl⟩
        | some x4 =>
          obtain ⟨t4, p4⟩ := x4
          rw [h4] at b3
          have b4 : ref07_texts_L1 s ((((z.put 0 t1).put 1 t2).put 2 t3).put 3 t4, (p4 : Int), ((4 : Nat) : Int)) = some (.done (.fall ((((z.put 0 t1).put 1 t2).put 2 t3).put 3 t4, (p4 : Int)))) := by
            unfold ref07_texts_L1
            exact cond_f rfl rfl
          exact bind_eq (loop_next b0 (loop_next b1 (loop_next b2 (loop_next b3 (loop_done b4))))) rfl
/-- Texts behind an offset. -/
theorem win_shift (s : Str) (k a w : Nat) : win (s.drop k) a w = win s (k + a) w := by simp [win, List.drop_drop]
theorem takeT_shift (s : Str) (k a : Nat) (hk : k ≤ s.length) : takeT (s.drop k) a = (takeT s (k + a)).map fun x => (x.1, x.2 - k) := by
  unfold takeT
  rw [win_shift, win_shift, List.length_drop]
  rw [show k + (a + 2) = k + a + 2 by omega]
  by_cases h1 : s.length < k + a + 2
  · rw [if_pos (by omega), if_pos h1]; rfl
  · rw [if_neg (by omega), if_neg h1]
    by_cases h2 : s.length < k + a + 2 + leV (win s (k + a) 2)
    · rw [if_pos (by omega), if_pos h2]; rfl
    · rw [if_neg (by omega), if_neg h2]
      simp only [Option.map_some, Option.some.injEq, Prod.mk.injEq, true_and]
      omega
theorem take4_shift (s : Str) (k : Nat) (hk : k ≤ s.length) : take4 (s.drop k) 0 = (take4 s k).map fun x => (x.1, x.2.1, x.2.2.1, x.2.2.2.1, x.2.2.2.2 - k) := by
  unfold take4
  rw [takeT_shift s k 0 hk, Nat.add_zero]
  cases h1 : takeT s k with
  | none => rfl
  | some x1 =>
    obtain ⟨t1, p1⟩ := x1
    have g1 := takeT_le h1
    simp only [Option.map_some]
    rw [takeT_shift s k (p1 - k) hk, show k + (p1 - k) = p1 by omega]
    cases h2 : takeT s p1 with
    | none => rfl
    | some x2 =>
      obtain ⟨t2, p2⟩ := x2
      have g2 := takeT_le h2
      simp only [Option.map_some]
      rw [takeT_shift s k (p2 - k) hk, show k + (p2 - k) = p2 by omega]
      cases h3 : takeT s p2 with
      | none => rfl
      | some x3 =>
        obtain ⟨t3, p3⟩ := x3
        have g3 := takeT_le h3
        simp only [Option.map_some]
        rw [takeT_shift s k (p3 - k) hk, show k + (p3 - k) = p3 by omega]
        cases h4 : takeT s p3 with
        | none => rfl
        | some x4 => rfl
end Go.Proofs.Ytglcohgjcjaamaa
