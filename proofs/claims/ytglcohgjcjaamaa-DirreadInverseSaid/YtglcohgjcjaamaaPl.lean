/-
  Plain laws of chapter 11: contents and Bounds. No program in sight.
-/
import Derived.Test.YtglcohgjcjaamaaPk
namespace Go.Proofs.Ytglcohgjcjaamaa
open Go.Rt Go.RowKit

theorem good_len (xs : List api_Dir) (h : ∀ x ∈ xs, checkR x = 0) (x : api_Dir) (hx : x ∈ xs) : 57 ≤ (putB x).length ∧ (putB x).length ≤ 313 := by
  have htl := texts_len x (checkR_zero x (h x hx)).2
  have hpl := putB_len x
  omega
theorem name_le {x : api_Dir} (h : x.ok) : x.Name_.length ≤ 9223372036854775807 := h.2.2.2.2.2.2.2.1
theorem take_good {xs : List api_Dir} {i : Nat} (hi : i < xs.length) (h : ∀ x ∈ xs.take i, checkR x = 0) (hc : checkR xs[i] = 0) : ∀ x ∈ xs.take (i + 1), checkR x = 0 := by
  intro x hx
  rw [List.take_add_one, List.getElem?_eq_getElem hi, List.mem_append] at hx
  rcases hx with hx | hx
  · exact h x hx
  · simp at hx; subst hx; exact hc
theorem bad_all (xs : List api_Dir) (h : ∀ x ∈ xs.take xs.length, checkR x = 0) : badR xs = 0 := (badR_good xs).2 (by rwa [List.take_length] at h)
theorem bad_drop : ∀ (xs : List api_Dir) (i : Nat), (∀ x ∈ xs.take i, checkR x = 0) → badR xs = badR (xs.drop i)
  | [], i, _ => by simp [badR]
  | x :: xs, 0, _ => rfl
  | x :: xs, i + 1, h => by
    have hx : checkR x = 0 := h x (by simp)
    have ih := bad_drop xs i (fun y hy => h y (by simp [hy]))
    rw [List.drop_succ_cons, ← ih]
    show (if checkR x = 0 then badR xs else checkR x) = _
    rw [if_pos hx]
theorem contents_eq (xs : List api_Dir) (hok : ∀ x ∈ xs, x.ok) (hl : xs.length ≤ 60) : dirread_contents xs = some (contR xs) := by
  have hB : BIG = 18446744073709551616 := rfl
  unfold dirread_contents
  have main : loopF (dirread_contents_L1 xs) BIG ([], [0], 0) = some (if badR xs = 0 then .fall (putsB xs, boundsN xs xs.length) else .ret ([], [], badR xs)) := by
    refine loopF_up (J := fun i s b => s = (putsB (xs.take i), boundsN xs i, (i : Int)) ∧ (∀ x ∈ xs.take i, checkR x = 0) ∧ b = if badR xs = 0 then .fall (putsB xs, boundsN xs xs.length) else .ret ([], [], badR xs)) xs.length (by omega) (fun s b hJ => ?_) (fun i s b hi hJ => ?_) ⟨rfl, by simp, rfl⟩
    · obtain ⟨rfl, hz, rfl⟩ := hJ
      unfold dirread_contents_L1
      refine cond_f (by simp) ?_
      rw [if_pos (bad_all xs hz), List.take_length]
    · obtain ⟨rfl, hz, rfl⟩ := hJ
      have hx := hok xs[i] (List.getElem_mem hi)
      have hp := put_eq xs[i] hx (name_le hx)
      unfold putR at hp
      by_cases hc : checkR xs[i] = 0
      · rw [if_pos hc] at hp
        refine .inr ⟨(putsB (xs.take (i + 1)), boundsN xs (i + 1), ((i + 1 : Nat) : Int)), ?_, rfl, take_good hi hz hc, rfl⟩
        have hpp := putsB_len (xs.take i) hz
        have htk : (xs.take i).length ≤ 60 := by simp; omega
        have hpl := good_len (xs.take (i + 1)) (take_good hi hz hc) xs[i] (by rw [List.take_add_one, List.getElem?_eq_getElem hi]; exact List.mem_append.2 (.inr (by simp only [Option.toList_some, List.mem_singleton])))
        unfold dirread_contents_L1
        refine cond_t (by simp only [decide_eq_true_eq]; omega) ?_
        refine bind_eq (getI_lt hi) ?_
        refine bind_eq hp ?_
        refine cond_f rfl ?_
        refine bind_eq (show cat (putsB (xs.take i)) (putB xs[i]) = some (putsB (xs.take (i + 1))) by rw [puts_take_succ xs i hi]; exact cat_eq (by omega)) ?_
        refine bind_eq (show room 8 (boundsN xs i) [((putsB (xs.take (i + 1))).length : Int)] = some (boundsN xs (i + 1)) by rw [boundsN_succ]; exact room_eq (by rw [boundsN_len]; simp; omega) (by rw [boundsN_len]; simp; omega)) ?_
        rw [w64_eq (n := (i : Int) + 1) ⟨by omega, by omega⟩]
        rfl
      · rw [if_neg hc] at hp
        refine .inl ?_
        have hb : badR xs = checkR xs[i] := by
          rw [bad_drop xs i hz, List.drop_eq_getElem_cons hi]
          show (if checkR xs[i] = 0 then badR (xs.drop (i + 1)) else checkR xs[i]) = _
          rw [if_neg hc]
        unfold dirread_contents_L1
        refine cond_t (by simp only [decide_eq_true_eq]; omega) ?_
        refine bind_eq (getI_lt hi) ?_
        refine bind_eq hp ?_
        refine cond_t (by simp [hc]) ?_
        rw [hb, if_neg hc]
  refine bind_eq main ?_
  unfold contR
  by_cases hb : badR xs = 0
  · rw [if_pos hb, if_pos hb]
  · rw [if_neg hb, if_neg hb]
theorem entries_eq (xs : List api_Dir) (hok : ∀ x ∈ xs, x.ok) (hl : xs.length ≤ 60) : ref11_entries xs = some (entR xs) := by
  have hB : BIG = 18446744073709551616 := rfl
  unfold ref11_entries
  have main : loopF (ref11_entries_L1 xs) BIG ([], 0) = some (if badR xs = 0 then .fall (xs.map putB) else .ret ([], badR xs)) := by
    refine loopF_up (J := fun i s b => s = ((xs.take i).map putB, (i : Int)) ∧ (∀ x ∈ xs.take i, checkR x = 0) ∧ b = if badR xs = 0 then .fall (xs.map putB) else .ret ([], badR xs)) xs.length (by omega) (fun s b hJ => ?_) (fun i s b hi hJ => ?_) ⟨by simp, by simp, rfl⟩
    · obtain ⟨rfl, hz, rfl⟩ := hJ
      unfold ref11_entries_L1
      refine cond_f (by simp) ?_
      rw [if_pos (bad_all xs hz), List.take_length]
    · obtain ⟨rfl, hz, rfl⟩ := hJ
      have hx := hok xs[i] (List.getElem_mem hi)
      have hp := ref_put_eq xs[i] (name_le hx)
      unfold putR at hp
      by_cases hc : checkR xs[i] = 0
      · rw [if_pos hc] at hp
        refine .inr ⟨((xs.take (i + 1)).map putB, ((i + 1 : Nat) : Int)), ?_, rfl, take_good hi hz hc, rfl⟩
        unfold ref11_entries_L1
        refine cond_t (by simp only [decide_eq_true_eq]; omega) ?_
        refine bind_eq (getI_lt hi) ?_
        refine bind_eq hp ?_
        refine cond_f rfl ?_
        refine bind_eq (room_eq (by simp; omega) (by simp; omega)) ?_
        rw [w64_eq (n := (i : Int) + 1) ⟨by omega, by omega⟩, List.take_add_one, List.getElem?_eq_getElem hi, List.map_append]
        rfl
      · rw [if_neg hc] at hp
        refine .inl ?_
        have hb : badR xs = checkR xs[i] := by
          rw [bad_drop xs i hz, List.drop_eq_getElem_cons hi]
          show (if checkR xs[i] = 0 then badR (xs.drop (i + 1)) else checkR xs[i]) = _
          rw [if_neg hc]
        unfold ref11_entries_L1
        refine cond_t (by simp only [decide_eq_true_eq]; omega) ?_
        refine bind_eq (getI_lt hi) ?_
        refine bind_eq hp ?_
        refine cond_t (by simp [hc]) ?_
        rw [hb, if_neg hc]
  refine bind_eq main ?_
  unfold entR
  by_cases hb : badR xs = 0
  · rw [if_pos hb, if_pos hb]
  · rw [if_neg hb, if_neg hb]
end Go.Proofs.Ytglcohgjcjaamaa
