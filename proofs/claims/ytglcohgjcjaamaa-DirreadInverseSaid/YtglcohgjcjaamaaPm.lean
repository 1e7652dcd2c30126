/-
  Plain laws of chapter 11: Page and Bounds. No program in sight.
-/
import Derived.Test.YtglcohgjcjaamaaPl
namespace Go.Proofs.Ytglcohgjcjaamaa
open Go.Rt Go.RowKit

/-! ### Bounds grow -/
section
variable {xs : List api_Dir}
def Good (xs : List api_Dir) : Prop := (∀ x ∈ xs, checkR x = 0) ∧ xs.length ≤ 60
theorem bnd_step (h : Good xs) {i : Nat} (hi : i < xs.length) : bnd xs i + 57 ≤ bnd xs (i + 1) ∧ bnd xs (i + 1) ≤ bnd xs i + 313 := by
  have := good_len xs h.1 xs[i] (List.getElem_mem hi)
  rw [bnd_succ xs i hi]
  omega
theorem bnd_le (h : Good xs) {i : Nat} : ∀ {j : Nat}, i ≤ j → j ≤ xs.length → bnd xs i ≤ bnd xs j
  | 0, hij, _ => by
    obtain rfl : i = 0 := by omega
    exact Nat.le_refl _
  | j + 1, hij, hj => by
    rcases Nat.lt_or_ge i (j + 1) with hlt | hge
    · have h1 := bnd_le h (i := i) (j := j) (by omega) (by omega)
      have h2 := bnd_step h (i := j) (by omega)
      omega
    · obtain rfl : i = j + 1 := by omega
      exact Nat.le_refl _
theorem bnd_lt (h : Good xs) {i j : Nat} (hij : i < j) (hj : j ≤ xs.length) : bnd xs i < bnd xs j := by
  have h1 := bnd_step h (i := i) (by omega)
  have h2 := bnd_le h (i := i + 1) (j := j) hij hj
  omega
theorem bnd_inj (h : Good xs) {i j : Nat} (hi : i ≤ xs.length) (hj : j ≤ xs.length) (he : bnd xs i = bnd xs j) : i = j := by
  rcases Nat.lt_trichotomy i j with hlt | heq | hgt
  · have := bnd_lt h hlt hj; omega
  · exact heq
  · have := bnd_lt h hgt hi; omega
theorem bnd_max (h : Good xs) {i : Nat} (hi : i ≤ xs.length) : bnd xs i ≤ 24000 := by
  have hp := putsB_len (xs.take i) (fun x hx => h.1 x (List.mem_of_mem_take hx))
  have htk : (xs.take i).length ≤ 60 := by have := h.2; simp; omega
  unfold bnd
  omega
theorem bnd_all (xs : List api_Dir) : bnd xs xs.length = (putsB xs).length := by unfold bnd; rw [List.take_length]
/-- The entries i .. j. -/
def part (xs : List api_Dir) (i j : Nat) : Str := putsB ((xs.take j).drop i)
theorem puts_split (xs : List api_Dir) (i : Nat) : putsB xs = putsB (xs.take i) ++ putsB (xs.drop i) := by
  unfold putsB
  rw [← List.flatten_append, ← List.map_append, List.take_append_drop]
theorem part_sub (xs : List api_Dir) {i j : Nat} (hij : i ≤ j) : ((putsB xs).take (bnd xs j)).drop (bnd xs i) = part xs i j := by
  have h1 : (putsB xs).take (bnd xs j) = putsB (xs.take j) := by
    rw [puts_split xs j]
    exact List.take_left
  rw [h1, puts_split (xs.take j) i]
  have h2 : (xs.take j).take i = xs.take i := by rw [List.take_take, Nat.min_eq_left hij]
  rw [h2]
  exact List.drop_left
theorem part_len (h : Good xs) {i j : Nat} (hij : i ≤ j) (hj : j ≤ xs.length) : (part xs i j).length = bnd xs j - bnd xs i := by
  rw [← part_sub xs hij, List.length_drop, List.length_take, ← bnd_all]
  have := bnd_le h hj (Nat.le_refl _)
  omega
theorem part_self (xs : List api_Dir) (i : Nat) : part xs i i = [] := by
  unfold part
  rw [List.drop_eq_nil_of_le (by rw [List.length_take]; omega)]
  rfl
theorem part_succ (xs : List api_Dir) {i j : Nat} (hij : i ≤ j) (hj : j < xs.length) : part xs i (j + 1) = part xs i j ++ putB xs[j] := by
  unfold part
  have : (xs.take (j + 1)).drop i = (xs.take j).drop i ++ [xs[j]] := by
    rw [List.take_add_one, List.getElem?_eq_getElem hj]
    rw [List.drop_append_of_le_length (by simp; omega)]
    rfl
  rw [this]
  simp [putsB]
/-- The entries from i on that fit into c bytes end at j. -/
structure Fits (xs : List api_Dir) (i : Nat) (c : Int) (j : Nat) : Prop where
  le : i ≤ j
  len : j ≤ xs.length
  fit : (bnd xs j : Int) - (bnd xs i : Int) ≤ c
  next : j < xs.length → c < (bnd xs (j + 1) : Int) - (bnd xs i : Int)
theorem fits_exists (xs : List api_Dir) {i : Nat} (hi : i ≤ xs.length) {c : Int} (hc : 0 ≤ c) : ∃ j, Fits xs i c j := by
  have key : ∀ (k j : Nat), xs.length - j = k → i ≤ j → j ≤ xs.length → (bnd xs j : Int) - (bnd xs i : Int) ≤ c → ∃ j, Fits xs i c j := by
    intro k
    induction k with
    | zero => intro j hk h1 h2 h3; exact ⟨j, h1, h2, h3, fun h4 => by omega⟩
    | succ k ih =>
      intro j hk h1 h2 h3
      by_cases hn : (bnd xs (j + 1) : Int) - (bnd xs i : Int) ≤ c
      · exact ih (j + 1) (by omega) (by omega) (by omega) hn
      · exact ⟨j, h1, h2, h3, fun _ => by omega⟩
  exact key _ i rfl (Nat.le_refl _) hi (by omega)
theorem Fits.iff (h : Good xs) {i j : Nat} {c : Int} (hf : Fits xs i c j) {k : Nat} (hk : k ≤ xs.length) : ((bnd xs k : Int) - (bnd xs i : Int) ≤ c) ↔ k ≤ j := by
  constructor
  · intro hle
    rcases Nat.lt_or_ge j k with hlt | hge
    · have h1 := hf.next (by omega)
      have h2 := bnd_le h (i := j + 1) (j := k) hlt hk
      omega
    · exact hge
  · intro hle
    have h1 := hf.fit
    have h2 := bnd_le h hle hf.len
    omega
/-- What Page returns where the offset is entry i's. -/
def pageR (xs : List api_Dir) (i j : Nat) : Str × Int := if j = i ∧ i < xs.length then ([], 3) else (part xs i j, 0)

/-! ### The program's Page -/
theorem index_some (l : List Int) (v : Int) (i : Nat) (hl : l.length ≤ 1000) (hi : l[i]? = some v) (hb : ∀ k, k < i → l[k]? ≠ some v) : slices_Index_intint l v = some (i : Int) := by
  have hB : BIG = 18446744073709551616 := rfl
  have hlt := (List.getElem?_eq_some_iff.1 hi).1
  unfold slices_Index_intint
  refine bind_eq (loop_traj (body := slices_Index_intint_L1 l v) (fun k => (k : Int)) i (by omega) (b := .ret (i : Int)) (fun k hk => ?_) ?_) rfl
  · unfold slices_Index_intint_L1
    refine cond_t (by simp only [decide_eq_true_eq]; omega) ?_
    refine bind_eq (getI_lt (by omega)) ?_
    refine cond_f ?_ ?_
    · rw [beq_eq_false_iff_ne]
      intro he
      exact hb k hk (by rw [List.getElem?_eq_getElem (by omega), ← he])
    rw [w64_eq (n := (k : Int) + 1) ⟨by omega, by omega⟩]
    rfl
  · unfold slices_Index_intint_L1
    refine cond_t (by simp only [decide_eq_true_eq]; omega) ?_
    refine bind_eq (show getI l (i : Int) = some v by rw [getI_nat, hi]) ?_
    exact cond_t (by simp) rfl
theorem index_none (l : List Int) (v : Int) (hl : l.length ≤ 1000) (hb : ∀ k : Nat, l[k]? ≠ some v) : slices_Index_intint l v = some (-1) := by
  have hB : BIG = 18446744073709551616 := rfl
  unfold slices_Index_intint
  refine bind_eq (loop_traj (body := slices_Index_intint_L1 l v) (fun k => (k : Int)) l.length (by omega) (b := .fall ()) (fun k hk => ?_) ?_) rfl
  · unfold slices_Index_intint_L1
    refine cond_t (by simp only [decide_eq_true_eq]; omega) ?_
    refine bind_eq (getI_lt hk) ?_
    refine cond_f ?_ ?_
    · rw [beq_eq_false_iff_ne]
      intro he
      exact hb k (by rw [List.getElem?_eq_getElem hk, ← he])
    rw [w64_eq (n := (k : Int) + 1) ⟨by omega, by omega⟩]
    rfl
  · unfold slices_Index_intint_L1
    exact cond_f (by simp) rfl
theorem page_eq (h : Good xs) {i j : Nat} {c : Int} (hi : i ≤ xs.length) (hf : Fits xs i c j) : dirread_page (putsB xs) (boundsN xs xs.length) (bnd xs i : Int) c = some (pageR xs i j) := by
  have hB : BIG = 18446744073709551616 := rfl
  have hn := h.2
  have hbl := boundsN_len xs xs.length
  have hm := bnd_max h hi
  have hmj := bnd_max h hf.len
  unfold dirread_page
  refine bind_eq (index_some _ _ i (by omega) (boundsN_get xs xs.length i hi) (fun k hk he => ?_)) ?_
  · rw [boundsN_get xs xs.length k (by omega)] at he
    simp only [Option.some.injEq] at he
    have := bnd_lt h hk hi
    omega
  refine cond_f (by simp only [decide_eq_false_iff_not]; omega) ?_
  have hw1 : w64 ((i : Int) + 1) = ((i + 1 : Nat) : Int) := by rw [w64_eq ⟨by omega, by omega⟩]; omega
  rw [hw1]
  have hsub : subI (boundsN xs xs.length) ((i + 1 : Nat) : Int) ((boundsN xs xs.length).length : Int) = some ((boundsN xs xs.length).drop (i + 1)) := by
    rw [subI_eq (by omega) (by omega) (by omega)]
    simp
  refine bind_eq hsub ?_
  have hdl : ((boundsN xs xs.length).drop (i + 1)).length = xs.length - i := by rw [List.length_drop, hbl]; omega
  have hget : ∀ k, k < xs.length - i → ((boundsN xs xs.length).drop (i + 1))[k]? = some (bnd xs (i + 1 + k) : Int) := fun k hk => by
    rw [List.getElem?_drop, boundsN_get xs xs.length (i + 1 + k) (by omega)]
  generalize (boundsN xs xs.length).drop (i + 1) = ys at hdl hget
  have hloop : loopF (dirread_page_L1 ys (bnd xs i : Int) c) BIG ((bnd xs i : Int), 0) = some (bnd xs j : Int) := by
    have ht := loop_traj (body := dirread_page_L1 ys (bnd xs i : Int) c) (fun k => ((bnd xs (min (i + k) j) : Int), (k : Int))) (xs.length - i) (by omega) (b := (bnd xs j : Int)) (fun k hk => ?_) ?_
    · rw [show min (i + 0) j = i by have := hf.le; omega] at ht
      exact ht
    · unfold dirread_page_L1
      refine cond_t (by simp only [decide_eq_true_eq]; omega) ?_
      have hmk := bnd_max h (i := i + 1 + k) (by omega)
      have hiff := hf.iff h (k := i + 1 + k) (by omega)
      refine bind_eq (a := (bnd xs (min (i + (k + 1)) j) : Int)) ?_ ?_
      · refine bind_eq (show getI ys (k : Int) = some (bnd xs (i + 1 + k) : Int) by rw [getI_nat, hget k hk]) ?_
        rw [w64_eq (n := (bnd xs (i + 1 + k) : Int) - (bnd xs i : Int)) ⟨by omega, by omega⟩]
        by_cases hle : i + 1 + k ≤ j
        · refine cond_t (by simp only [decide_eq_true_eq]; exact hiff.2 hle) ?_
          rw [show min (i + (k + 1)) j = i + 1 + k by omega]
        · refine cond_f (by simp only [decide_eq_false_iff_not]; exact fun hh => hle (hiff.1 hh)) ?_
          have := hf.le
          rw [show min (i + (k + 1)) j = min (i + k) j by omega]
      · show some (Step.next ((bnd xs (min (i + (k + 1)) j) : Int), w64 ((k : Int) + 1))) = _
        rw [w64_eq (n := (k : Int) + 1) ⟨by omega, by omega⟩]
        rfl
    · unfold dirread_page_L1
      refine cond_f (by simp only [decide_eq_false_iff_not]; omega) ?_
      have := hf.le
      have := hf.len
      show some (Step.done (bnd xs (min (i + (xs.length - i)) j) : Int)) = _
      rw [show min (i + (xs.length - i)) j = j by omega]
  refine bind_eq hloop ?_
  have hall := bnd_all xs
  unfold pageR
  by_cases hji : j = i ∧ i < xs.length
  · rw [if_pos hji]
    obtain ⟨rfl, hlt⟩ := hji
    refine cond_t ?_ rfl
    have := bnd_lt h hlt (Nat.le_refl _)
    rw [Bool.and_eq_true]
    exact ⟨beq_self_eq_true _, decide_eq_true (by omega)⟩
  · rw [if_neg hji]
    refine cond_f ?_ ?_
    · rw [Bool.and_eq_false_iff, beq_eq_false_iff_ne]
      simp only [decide_eq_false_iff_not]
      by_cases hb : j = i
      · right
        have : ¬ i < xs.length := fun hh => hji ⟨hb, hh⟩
        have hie : i = xs.length := by omega
        rw [hie, hall]; omega
      · left
        intro he
        exact hb (bnd_inj h hf.len hi (by omega))
    have hle := bnd_le h hf.le hf.len
    have hle2 := bnd_le h hf.len (Nat.le_refl _)
    have hs : subI (putsB xs) (bnd xs i : Int) (bnd xs j : Int) = some (part xs i j) := by
      rw [subI_eq (by omega) (by omega) (by omega)]
      simp only [Int.toNat_natCast]
      rw [part_sub xs hf.le]
    exact bind_eq hs rfl
theorem page_none (h : Good xs) {off c : Int} (hoff : ∀ i, i ≤ xs.length → off ≠ (bnd xs i : Int)) : dirread_page (putsB xs) (boundsN xs xs.length) off c = some ([], 20) := by
  have hn := h.2
  have hbl := boundsN_len xs xs.length
  unfold dirread_page
  refine bind_eq (index_none _ _ (by omega) (fun k he => ?_)) ?_
  · have hk := (List.getElem?_eq_some_iff.1 he).1
    rw [hbl] at hk
    rw [boundsN_get xs xs.length k (by omega)] at he
    simp only [Option.some.injEq] at he
    exact hoff k (by omega) he.symm
  · exact cond_t rfl rfl

/-! ### The reference's Page -/
theorem puts_get (xs : List api_Dir) (k : Nat) (hk : k < xs.length) : getI (xs.map putB) (k : Int) = some (putB xs[k]) := by
  rw [getI_nat, List.getElem?_map, List.getElem?_eq_getElem hk]; rfl
theorem ref_skip (h : Good xs) (off : Int) (i : Nat) (hi : i ≤ xs.length) (hb : ∀ k, k < i → (bnd xs k : Int) < off) (he : i = xs.length ∨ off ≤ (bnd xs i : Int)) :
    loopF (ref11_Page_L1 (xs.map putB, 0) off) BIG (0, 0) = some ((bnd xs i : Int), (i : Int)) := by
  have hB : BIG = 18446744073709551616 := rfl
  have hn := h.2
  have ht := loop_traj (body := ref11_Page_L1 (xs.map putB, 0) off) (fun k => ((bnd xs k : Int), (k : Int))) i (by omega) (b := ((bnd xs i : Int), (i : Int))) (fun k hk => ?_) ?_
  · exact ht
  · have hbk := hb k hk
    have hm := bnd_max h (i := k + 1) (by omega)
    unfold ref11_Page_L1
    refine cond_t (by simp only [Bool.and_eq_true, decide_eq_true_eq, List.length_map]; omega) ?_
    refine bind_eq (puts_get xs k (by omega)) ?_
    have hs := bnd_succ xs k (by omega)
    show some (Step.next (w64 ((bnd xs k : Int) + ((putB xs[k]).length : Int)), w64 ((k : Int) + 1))) = _
    rw [w64_eq (n := (k : Int) + 1) ⟨by omega, by omega⟩, w64_eq (n := (bnd xs k : Int) + ((putB xs[k]).length : Int)) ⟨by omega, by omega⟩, hs]
    rfl
  · unfold ref11_Page_L1
    refine cond_f ?_ rfl
    rw [Bool.and_eq_false_iff]
    simp only [decide_eq_false_iff_not, List.length_map]
    omega
theorem ref_take (h : Good xs) {i j : Nat} {c : Int} (hf : Fits xs i c j) (hc : I64 c) (h0 : 0 ≤ c) : loopF (ref11_Page_L2 (xs.map putB, 0) c) BIG ((i : Int), []) = some (part xs i j) := by
  have hB : BIG = 18446744073709551616 := rfl
  have hn := h.2
  have hle := hf.le
  have hlen := hf.len
  have ht := loop_traj (body := ref11_Page_L2 (xs.map putB, 0) c) (fun k => (((i + k : Nat) : Int), part xs i (i + k))) (j - i) (by omega) (b := part xs i j) (fun k hk => ?_) ?_
  · simpa [part_self] using ht
  · have hlt : i + k < xs.length := by omega
    have hpl := part_len h (i := i) (j := i + k) (by omega) (by omega)
    have hs := bnd_succ xs (i + k) hlt
    have hm := bnd_max h (i := i + k + 1) (by omega)
    have hb := bnd_le h (i := i) (j := i + k) (by omega) (by omega)
    have hiff := (hf.iff h (k := i + k + 1) (by omega)).2 (by omega)
    unfold ref11_Page_L2
    refine bind_eq (a := true) (cond_t (by simp only [decide_eq_true_eq, List.length_map]; omega) (bind_eq (puts_get xs (i + k) hlt) ?_)) ?_
    · show some (decide (((putB xs[i + k]).length : Int) ≤ w64 (c - ((part xs i (i + k)).length : Int)))) = _
      rw [w64_eq (n := c - ((part xs i (i + k)).length : Int)) ⟨by omega, by omega⟩]
      simp only [Option.some.injEq, decide_eq_true_eq]
      omega
    · refine cond_t rfl ?_
      refine bind_eq (puts_get xs (i + k) hlt) ?_
      refine bind_eq (show cat (part xs i (i + k)) (putB xs[i + k]) = some (part xs i (i + k + 1)) by rw [part_succ xs (by omega) hlt]; exact cat_eq (by omega)) ?_
      show some (Step.next (w64 (((i + k : Nat) : Int) + 1), part xs i (i + k + 1))) = _
      rw [w64_eq (n := ((i + k : Nat) : Int) + 1) ⟨by omega, by omega⟩]
      rfl
  · have hij : i + (j - i) = j := by omega
    unfold ref11_Page_L2
    rw [hij]
    refine bind_eq (a := false) ?_ (cond_f rfl rfl)
    by_cases hlt : j < xs.length
    · refine cond_t (by simp only [decide_eq_true_eq, List.length_map]; omega) (bind_eq (puts_get xs j hlt) ?_)
      have hpl := part_len h (i := i) (j := j) hle hlen
      have hs := bnd_succ xs j hlt
      have hm := bnd_max h (i := j + 1) (by omega)
      have hb := bnd_le h hle hlen
      have hx := hf.next hlt
      show some (decide (((putB xs[j]).length : Int) ≤ w64 (c - ((part xs i j).length : Int)))) = _
      rw [w64_eq (n := c - ((part xs i j).length : Int)) ⟨by omega, by omega⟩]
      simp only [Option.some.injEq, decide_eq_false_iff_not]
      omega
    · exact cond_f (by simp only [decide_eq_false_iff_not, List.length_map]; omega) rfl
end
end Go.Proofs.Ytglcohgjcjaamaa
