/-
  Plain laws of chapter 11: Page, Bounds and All, the program's and the reference's. No program in sight.
-/
import Derived.Test.YtglcohgjcjaamaaPm
namespace Go.Proofs.Ytglcohgjcjaamaa
open Go.Rt Go.RowKit

theorem good_of {xs : List api_Dir} (hb : badR xs = 0) (hl : xs.length ≤ 60) : Good xs := ⟨(badR_good xs).1 hb, hl⟩
theorem contR_good {xs : List api_Dir} (hb : badR xs = 0) : contR xs = (putsB xs, boundsN xs xs.length, 0) := by unfold contR; rw [if_pos hb]
theorem entR_good {xs : List api_Dir} (hb : badR xs = 0) : entR xs = (xs.map putB, 0) := by unfold entR; rw [if_pos hb]
theorem contR_bad {xs : List api_Dir} (hb : badR xs ≠ 0) : contR xs = ([], [], badR xs) := by unfold contR; rw [if_neg hb]
theorem entR_bad {xs : List api_Dir} (hb : badR xs ≠ 0) : entR xs = ([], badR xs) := by unfold entR; rw [if_neg hb]
section
variable {xs : List api_Dir} (hok : ∀ x ∈ xs, x.ok)
include hok
/-! ### Page -/
omit hok in
theorem dPage_neg {off c : Int} (h : off < 0 ∨ c < 0) : dirread_Page xs off c = some ([], 1) := by
  unfold dirread_Page
  exact cond_t (by simp only [Bool.or_eq_true, decide_eq_true_eq]; exact h) rfl
omit hok in
theorem rPage_neg {off c : Int} (h : off < 0 ∨ c < 0) : ref11_Page xs off c = some ([], 1) := by
  unfold ref11_Page
  exact cond_t (by simp only [Bool.or_eq_true, decide_eq_true_eq]; exact h) rfl
theorem dPage_bad {off c : Int} (h0 : 0 ≤ off) (h1 : 0 ≤ c) (hl : xs.length ≤ 60) (hb : badR xs ≠ 0) : dirread_Page xs off c = some ([], badR xs) := by
  unfold dirread_Page
  refine cond_f (by simp only [Bool.or_eq_false_iff, decide_eq_false_iff_not]; omega) ?_
  refine bind_eq (contents_eq xs hok hl) ?_
  rw [contR_bad hb]
  exact cond_t (by simpa using hb) rfl
theorem rPage_bad {off c : Int} (h0 : 0 ≤ off) (h1 : 0 ≤ c) (hl : xs.length ≤ 60) (hb : badR xs ≠ 0) : ref11_Page xs off c = some ([], badR xs) := by
  unfold ref11_Page
  refine cond_f (by simp only [Bool.or_eq_false_iff, decide_eq_false_iff_not]; omega) ?_
  refine bind_eq (entries_eq xs hok hl) ?_
  rw [entR_bad hb]
  exact cond_t (by simpa using hb) rfl
theorem dPage (h : Good xs) {i j : Nat} {c : Int} (hi : i ≤ xs.length) (hf : Fits xs i c j) (h0 : 0 ≤ c) : dirread_Page xs (bnd xs i : Int) c = some (pageR xs i j) := by
  unfold dirread_Page
  refine cond_f (by simp only [Bool.or_eq_false_iff, decide_eq_false_iff_not]; omega) ?_
  refine bind_eq (contents_eq xs hok h.2) ?_
  rw [contR_good ((badR_good xs).2 h.1)]
  exact cond_f rfl (bind_eq (page_eq h hi hf) rfl)
theorem dPage_none (h : Good xs) {off c : Int} (h0 : 0 ≤ off) (h1 : 0 ≤ c) (hoff : ∀ i, i ≤ xs.length → off ≠ (bnd xs i : Int)) : dirread_Page xs off c = some ([], 20) := by
  unfold dirread_Page
  refine cond_f (by simp only [Bool.or_eq_false_iff, decide_eq_false_iff_not]; omega) ?_
  refine bind_eq (contents_eq xs hok h.2) ?_
  rw [contR_good ((badR_good xs).2 h.1)]
  exact cond_f rfl (bind_eq (page_none h hoff) rfl)
theorem rPage (h : Good xs) {i j : Nat} {c : Int} (hi : i ≤ xs.length) (hf : Fits xs i c j) (hc : I64 c) (h0 : 0 ≤ c) : ref11_Page xs (bnd xs i : Int) c = some (pageR xs i j) := by
  unfold ref11_Page
  refine cond_f (by simp only [Bool.or_eq_false_iff, decide_eq_false_iff_not]; omega) ?_
  refine bind_eq (entries_eq xs hok h.2) ?_
  rw [entR_good ((badR_good xs).2 h.1)]
  refine cond_f rfl ?_
  refine bind_eq (ref_skip h _ i hi (fun k hk => by have := bnd_lt h hk hi; omega) (.inr (Int.le_refl _))) ?_
  refine cond_f (by simp) ?_
  unfold pageR
  by_cases hlt : i < xs.length
  · have hs := bnd_succ xs i hlt
    refine bind_eq (cond_t (by simp only [decide_eq_true_eq, List.length_map]; omega) (bind_eq (puts_get xs i hlt) rfl)) ?_
    by_cases hj : j = i
    · rw [if_pos ⟨hj, hlt⟩]
      subst hj
      have := hf.next hlt
      exact cond_t (by simp only [decide_eq_true_eq]; omega) rfl
    · rw [if_neg (fun hh => hj hh.1)]
      have hle := hf.le
      have := (hf.iff h (k := i + 1) (by omega)).2 (by omega)
      exact cond_f (by simp only [decide_eq_false_iff_not]; omega) (bind_eq (ref_take h hf hc h0) rfl)
  · rw [if_neg (fun hh => hlt hh.2)]
    refine bind_eq (cond_f (by simp only [decide_eq_false_iff_not, List.length_map]; omega) rfl) ?_
    exact cond_f rfl (bind_eq (ref_take h hf hc h0) rfl)
omit hok in
/-- The first bound that is not below an offset. -/
theorem first_bound (xs : List api_Dir) (off : Int) : ∃ i, i ≤ xs.length ∧ (∀ k, k < i → (bnd xs k : Int) < off) ∧ (i = xs.length ∨ off ≤ (bnd xs i : Int)) := by
  have key : ∀ (k i : Nat), xs.length - i = k → i ≤ xs.length → (∀ k, k < i → (bnd xs k : Int) < off) → ∃ i, i ≤ xs.length ∧ (∀ k, k < i → (bnd xs k : Int) < off) ∧ (i = xs.length ∨ off ≤ (bnd xs i : Int)) := by
    intro k
    induction k with
    | zero => intro i h1 h2 h3; exact ⟨i, h2, h3, .inl (by omega)⟩
    | succ k ih =>
      intro i h1 h2 h3
      by_cases hn : (bnd xs i : Int) < off
      · refine ih (i + 1) (by omega) (by omega) fun k hk => ?_
        rcases Nat.lt_or_ge k i with hlt | hge
        · exact h3 k hlt
        · obtain rfl : k = i := by omega
          exact hn
      · exact ⟨i, h2, h3, .inr (by omega)⟩
  exact key _ 0 rfl (by omega) (fun k hk => absurd hk (by omega))
theorem rPage_none (h : Good xs) {off c : Int} (h0 : 0 ≤ off) (h1 : 0 ≤ c) (hoff : ∀ i, i ≤ xs.length → off ≠ (bnd xs i : Int)) : ref11_Page xs off c = some ([], 20) := by
  unfold ref11_Page
  refine cond_f (by simp only [Bool.or_eq_false_iff, decide_eq_false_iff_not]; omega) ?_
  refine bind_eq (entries_eq xs hok h.2) ?_
  rw [entR_good ((badR_good xs).2 h.1)]
  refine cond_f rfl ?_
  obtain ⟨i, hi, hb, he⟩ := first_bound xs off
  refine bind_eq (ref_skip h off i hi hb he) ?_
  have := hoff i hi
  exact cond_t (by simp only [bne_iff_ne, ne_eq]; omega) rfl
theorem pages_eq (hl : xs.length ≤ 60) (off c : Int) (hc : I64 c) : ∃ r, dirread_Page xs off c = some r ∧ ref11_Page xs off c = some r := by
  by_cases hn : off < 0 ∨ c < 0
  · exact ⟨_, dPage_neg hn, rPage_neg hn⟩
  · have h0 : 0 ≤ off := by omega
    have h1 : 0 ≤ c := by omega
    by_cases hb : badR xs = 0
    · have h := good_of hb hl
      by_cases hx : ∃ i, i ≤ xs.length ∧ off = (bnd xs i : Int)
      · obtain ⟨i, hi, rfl⟩ := hx
        obtain ⟨j, hf⟩ := fits_exists xs hi h1
        exact ⟨_, dPage hok h hi hf h1, rPage hok h hi hf hc h1⟩
      · have hoff : ∀ i, i ≤ xs.length → off ≠ (bnd xs i : Int) := fun i hi he => hx ⟨i, hi, he⟩
        exact ⟨_, dPage_none hok h h0 h1 hoff, rPage_none hok h h0 h1 hoff⟩
    · exact ⟨_, dPage_bad hok h0 h1 hl hb, rPage_bad hok h0 h1 hl hb⟩
/-! ### Bounds -/
theorem dBounds (hl : xs.length ≤ 60) : dirread_Bounds xs = some (if badR xs = 0 then (boundsN xs xs.length, 0) else ([], badR xs)) := by
  unfold dirread_Bounds
  refine bind_eq (contents_eq xs hok hl) ?_
  unfold contR
  by_cases hb : badR xs = 0
  · rw [if_pos hb, if_pos hb]
  · rw [if_neg hb, if_neg hb]
theorem rBounds (hl : xs.length ≤ 60) : ref11_Bounds xs = some (if badR xs = 0 then (boundsN xs xs.length, 0) else ([], badR xs)) := by
  have hB : BIG = 18446744073709551616 := rfl
  unfold ref11_Bounds
  refine bind_eq (entries_eq xs hok hl) ?_
  by_cases hb : badR xs = 0
  · rw [if_pos hb, entR_good hb]
    refine cond_f rfl ?_
    have h := good_of hb hl
    have ht := loop_traj (body := ref11_Bounds_L1 (xs.map putB, 0)) (fun k => (boundsN xs k, (k : Int))) xs.length (by omega) (b := boundsN xs xs.length) (fun k hk => ?_) ?_
    · exact bind_eq ht rfl
    · unfold ref11_Bounds_L1
      refine cond_t (by simp only [decide_eq_true_eq, List.length_map]; omega) ?_
      refine bind_eq (show getI (boundsN xs k) (k : Int) = some (bnd xs k : Int) by rw [getI_nat, boundsN_get xs k k (Nat.le_refl _)]) ?_
      refine bind_eq (puts_get xs k hk) ?_
      have hs := bnd_succ xs k hk
      have hm := bnd_max h (i := k + 1) (by omega)
      refine bind_eq (show room 8 (boundsN xs k) [w64 ((bnd xs k : Int) + ((putB xs[k]).length : Int))] = some (boundsN xs (k + 1)) by
        rw [w64_eq ⟨by omega, by omega⟩, boundsN_succ, hs]
        exact room_eq (by rw [boundsN_len]; simp; omega) (by rw [boundsN_len]; simp; omega)) ?_
      rw [w64_eq (n := (k : Int) + 1) ⟨by omega, by omega⟩]
      rfl
    · unfold ref11_Bounds_L1
      exact cond_f (by simp only [decide_eq_false_iff_not, List.length_map]; omega) rfl
  · rw [if_neg hb, entR_bad hb]
    exact cond_t (by simpa using hb) rfl
/-! ### All -/
omit hok in
theorem part_zero (xs : List api_Dir) (j : Nat) : part xs 0 j = putsB (xs.take j) := rfl
omit hok in
theorem part_full (xs : List api_Dir) : part xs 0 xs.length = putsB xs := by rw [part_zero, List.take_length]
omit hok in
theorem part0_len (xs : List api_Dir) (j : Nat) : (part xs 0 j).length = bnd xs j := rfl
omit hok in
theorem part_cat (xs : List api_Dir) {i j : Nat} (hij : i ≤ j) : part xs 0 i ++ part xs i j = part xs 0 j := by
  unfold part
  simp only [List.drop_zero]
  have := puts_split (xs.take j) i
  rw [List.take_take, Nat.min_eq_left hij] at this
  exact this.symm
/-- Some entry from i on is longer than c. -/
def Large (xs : List api_Dir) (i : Nat) (c : Int) : Prop := ∃ m, i ≤ m ∧ m < xs.length ∧ c < (bnd xs (m + 1) : Int) - (bnd xs m : Int)
omit hok in
theorem large_stop {i : Nat} {c : Int} (hf : Fits xs i c i) (hlt : i < xs.length) : Large xs i c := ⟨i, Nat.le_refl _, hlt, hf.next hlt⟩
omit hok in
theorem large_go (h : Good xs) {i j : Nat} {c : Int} (hf : Fits xs i c j) : Large xs i c ↔ Large xs j c := by
  constructor
  · rintro ⟨m, h1, h2, h3⟩
    rcases Nat.lt_or_ge m j with hlt | hge
    · have := (hf.iff h (k := m + 1) (by omega)).2 (by omega)
      have := bnd_le h (i := i) (j := m) h1 (by omega)
      omega
    · exact ⟨m, hge, h2, h3⟩
  · rintro ⟨m, h1, h2, h3⟩
    have := hf.le
    exact ⟨m, by omega, h2, h3⟩
omit hok in
theorem large_end {i : Nat} {c : Int} (hi : xs.length ≤ i) : ¬ Large xs i c := fun ⟨m, h1, h2, _⟩ => by omega
omit hok in
theorem dAll_loop (h : Good xs) {c : Int} (h0 : 0 ≤ c) : (Large xs 0 c → loopF (dirread_All_L1 (putsB xs, boundsN xs xs.length, 0) c) BIG 0 = some (.ret ([], 3))) ∧
    (¬ Large xs 0 c → loopF (dirread_All_L1 (putsB xs, boundsN xs xs.length, 0) c) BIG 0 = some (.fall ())) := by
  have hB : BIG = 18446744073709551616 := rfl
  have hn := h.2
  have key : ∀ b : Out Unit (Str × Int), ((b = .ret ([], 3) ∧ Large xs 0 c) ∨ (b = .fall () ∧ ¬ Large xs 0 c)) → loopF (dirread_All_L1 (putsB xs, boundsN xs xs.length, 0) c) BIG 0 = some b := by
    intro b hb
    have hend : dirread_All_L1 (putsB xs, boundsN xs xs.length, 0) c (bnd xs xs.length : Int) = some (.done (.fall ())) := by
      unfold dirread_All_L1
      exact cond_f (by simp only [decide_eq_false_iff_not, bnd_all]; omega) rfl
    refine loopF_run (fun k s b => ∃ i, xs.length - i ≤ k ∧ i ≤ xs.length ∧ s = (bnd xs i : Int) ∧ ((b = .ret ([], 3) ∧ Large xs i c) ∨ (b = .fall () ∧ ¬ Large xs i c))) ?_ ?_ (k := 60) ⟨0, by omega, by omega, rfl, hb⟩ (by omega)
    · rintro s b ⟨i, h1, h2, rfl, h3⟩
      obtain rfl : i = xs.length := by omega
      rw [hend]
      rcases h3 with ⟨_, h3⟩ | ⟨rfl, _⟩
      · exact absurd h3 (large_end (Nat.le_refl _))
      · rfl
    · rintro k s b ⟨i, h1, h2, rfl, h3⟩
      by_cases hie : i = xs.length
      · subst hie
        left
        rw [hend]
        rcases h3 with ⟨_, h3⟩ | ⟨rfl, _⟩
        · exact absurd h3 (large_end (Nat.le_refl _))
        · rfl
      · obtain ⟨j, hf⟩ := fits_exists xs h2 h0
        have hlt := bnd_lt h (i := i) (j := xs.length) (by omega) (Nat.le_refl _)
        have hall := bnd_all xs
        by_cases hji : j = i
        · left
          subst hji
          have hL := large_stop hf (by omega)
          rcases h3 with ⟨rfl, _⟩ | ⟨_, h3⟩
          · unfold dirread_All_L1
            refine cond_t (by simp only [decide_eq_true_eq]; omega) ?_
            refine bind_eq (page_eq h h2 hf) ?_
            unfold pageR
            rw [if_pos ⟨rfl, by omega⟩]
            exact cond_t rfl rfl
          · exact absurd hL h3
        · right
          have hle := hf.le
          have hlen := hf.len
          have hpl := part_len h hle hlen
          have hbl := bnd_le h hle hlen
          have hm := bnd_max h hlen
          refine ⟨(bnd xs j : Int), ?_, j, by omega, hlen, rfl, by rw [← large_go h hf]; exact h3⟩
          unfold dirread_All_L1
          refine cond_t (by simp only [decide_eq_true_eq]; omega) ?_
          refine bind_eq (page_eq h h2 hf) ?_
          unfold pageR
          rw [if_neg (fun hh => hji hh.1)]
          refine cond_f rfl ?_
          show some (Step.next (w64 ((bnd xs i : Int) + ((part xs i j).length : Int)))) = _
          rw [w64_eq ⟨by omega, by omega⟩, hpl]
          simp only [Option.some.injEq, Step.next.injEq]
          omega
  exact ⟨fun hL => key _ (.inl ⟨rfl, hL⟩), fun hL => key _ (.inr ⟨rfl, hL⟩)⟩
theorem rAll_loop (h : Good xs) {c : Int} (h0 : 0 ≤ c) (hc : I64 c) : (Large xs 0 c → loopF (ref11_All_L1 xs c) BIG ([], 0) = some (.ret ([], 3))) ∧
    (¬ Large xs 0 c → loopF (ref11_All_L1 xs c) BIG ([], 0) = some (.fall (putsB xs))) := by
  have hB : BIG = 18446744073709551616 := rfl
  have hn := h.2
  have key : ∀ b : Out Str (Str × Int), ((b = .ret ([], 3) ∧ Large xs 0 c) ∨ (b = .fall (putsB xs) ∧ ¬ Large xs 0 c)) → loopF (ref11_All_L1 xs c) BIG ([], 0) = some b := by
    intro b hb
    refine loopF_up (J := fun m s b => ∃ i, i ≤ xs.length ∧ (m ≤ i ∨ i = xs.length) ∧ s = (part xs 0 i, (m : Int)) ∧ ((b = .ret ([], 3) ∧ Large xs i c) ∨ (b = .fall (putsB xs) ∧ ¬ Large xs i c))) (xs.length + 1) (by omega) ?_ ?_ ⟨0, by omega, .inl (Nat.le_refl _), rfl, hb⟩
    · rintro s b ⟨i, h1, h2, rfl, h3⟩
      obtain rfl : i = xs.length := by omega
      unfold ref11_All_L1
      refine cond_f (by simp only [decide_eq_false_iff_not]; omega) ?_
      rcases h3 with ⟨_, h3⟩ | ⟨rfl, _⟩
      · exact absurd h3 (large_end (Nat.le_refl _))
      · rw [part_full]
    · rintro m s b hm ⟨i, h1, h2, rfl, h3⟩
      obtain ⟨j, hf⟩ := fits_exists xs h1 h0
      have hle := hf.le
      have hlen := hf.len
      have hp := rPage hok h h1 hf hc h0
      unfold pageR at hp
      by_cases hji : j = i ∧ i < xs.length
      · left
        rw [if_pos hji] at hp
        obtain ⟨rfl, hlt⟩ := hji
        rcases h3 with ⟨rfl, _⟩ | ⟨_, h3⟩
        · unfold ref11_All_L1
          refine cond_t (by simp only [decide_eq_true_eq]; omega) ?_
          exact bind_eq hp (cond_t rfl rfl)
        · exact absurd (large_stop hf hlt) h3
      · right
        rw [if_neg hji] at hp
        have hmx := bnd_max h hlen
        refine ⟨(part xs 0 j, ((m + 1 : Nat) : Int)), ?_, j, hlen, by omega, rfl, by rw [← large_go h hf]; exact h3⟩
        unfold ref11_All_L1
        refine cond_t (by simp only [decide_eq_true_eq]; omega) ?_
        refine bind_eq hp ?_
        refine cond_f rfl ?_
        refine bind_eq (show cat (part xs 0 i) (part xs i j) = some (part xs 0 j) by
          rw [← part_cat xs hle]
          refine cat_eq ?_
          rw [← List.length_append, part_cat xs hle, part0_len]
          omega) ?_
        rw [w64_eq (n := (m : Int) + 1) ⟨by omega, by omega⟩]
        rfl
  exact ⟨fun hL => key _ (.inl ⟨rfl, hL⟩), fun hL => key _ (.inr ⟨rfl, hL⟩)⟩
omit hok in
theorem dAll_neg {c : Int} (h : c < 0) : dirread_All xs c = some ([], 1) := by
  unfold dirread_All
  exact cond_t (by simpa using h) rfl
theorem dAll_bad {c : Int} (h : 0 ≤ c) (hl : xs.length ≤ 60) (hb : badR xs ≠ 0) : dirread_All xs c = some ([], badR xs) := by
  unfold dirread_All
  refine cond_f (by simpa using h) ?_
  refine bind_eq (contents_eq xs hok hl) ?_
  rw [contR_bad hb]
  exact cond_t (by simpa using hb) rfl
theorem dAll_large (h : Good xs) {c : Int} (h0 : 0 ≤ c) (hL : Large xs 0 c) : dirread_All xs c = some ([], 3) := by
  unfold dirread_All
  refine cond_f (by simpa using h0) ?_
  refine bind_eq (contents_eq xs hok h.2) ?_
  rw [contR_good ((badR_good xs).2 h.1)]
  exact cond_f rfl (bind_eq ((dAll_loop h h0).1 hL) rfl)
theorem dAll_fine (h : Good xs) {c : Int} (h0 : 0 ≤ c) (hL : ¬ Large xs 0 c) : dirread_All xs c = some (putsB xs, 0) := by
  unfold dirread_All
  refine cond_f (by simpa using h0) ?_
  refine bind_eq (contents_eq xs hok h.2) ?_
  rw [contR_good ((badR_good xs).2 h.1)]
  exact cond_f rfl (bind_eq ((dAll_loop h h0).2 hL) rfl)
omit hok in
theorem rAll_first {c : Int} {e : Int} (hl : xs.length ≤ 60) (hp : ref11_Page xs 0 c = some ([], e)) (he : e ≠ 0) : ref11_All xs c = some ([], e) := by
  have hB : BIG = 18446744073709551616 := rfl
  unfold ref11_All
  refine bind_eq (loop_traj (body := ref11_All_L1 xs c) (fun _ => ([], 0)) 0 (by omega) (b := .ret ([], e)) (fun i hi => absurd hi (by omega)) ?_) rfl
  unfold ref11_All_L1
  refine cond_t (by simp only [decide_eq_true_eq]; omega) ?_
  exact bind_eq hp (cond_t (by simpa using he) rfl)
theorem alls_eq (hl : xs.length ≤ 60) (c : Int) (hc : I64 c) : ∃ r, dirread_All xs c = some r ∧ ref11_All xs c = some r := by
  by_cases hn : c < 0
  · exact ⟨_, dAll_neg hn, rAll_first hl (rPage_neg (.inr hn)) (by omega)⟩
  · have h1 : 0 ≤ c := by omega
    by_cases hb : badR xs = 0
    · have h := good_of hb hl
      by_cases hL : Large xs 0 c
      · refine ⟨_, dAll_large hok h h1 hL, ?_⟩
        unfold ref11_All
        exact bind_eq ((rAll_loop hok h h1 hc).1 hL) rfl
      · refine ⟨_, dAll_fine hok h h1 hL, ?_⟩
        unfold ref11_All
        exact bind_eq ((rAll_loop hok h h1 hc).2 hL) rfl
    · exact ⟨_, dAll_bad hok h1 hl hb, rAll_first hl (rPage_bad hok (Int.le_refl _) h1 hl hb) hb⟩
end
end Go.Proofs.Ytglcohgjcjaamaa
