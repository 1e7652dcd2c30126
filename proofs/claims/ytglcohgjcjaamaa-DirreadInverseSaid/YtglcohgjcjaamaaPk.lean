/-
  Plain laws of chapter 11: contents, bounds and entries of a list. No program in sight.
-/
import Derived.Test.YtglcohgjcjaamaaPj
namespace Go.Proofs.Ytglcohgjcjaamaa
open Go.Rt Go.RowKit

/-! ### Small lists -/
def smallDir (x : api_Dir) : Bool := decide (x.Name_.length ≤ 2000) && decide (x.Uid_.length ≤ 2000) && decide (x.Gid_.length ≤ 2000) && decide (x.Muid_.length ≤ 2000)
theorem small_eq (xs : List api_Dir) (hl : xs.length ≤ 9223372036854775807) : law11_small xs = some (decide (xs.length ≤ 60) && xs.all smallDir) := by
  have hB : BIG = 18446744073709551616 := rfl
  unfold law11_small
  by_cases h60 : xs.length > 60
  · refine cond_t (by simp only [decide_eq_true_eq]; omega) ?_
    have : decide (xs.length ≤ 60) = false := by simp only [decide_eq_false_iff_not]; omega
    rw [this]; rfl
  · refine cond_f (by simp only [decide_eq_false_iff_not]; omega) ?_
    have h1 : decide (xs.length ≤ 60) = true := by simp only [decide_eq_true_eq]; omega
    rw [h1, Bool.true_and]
    refine bind_eq (loop_all xs smallDir false (by omega) (fun i hi => ?_) ?_) ?_
    · unfold law11_small_L1
      refine cond_t (by simp only [decide_eq_true_eq]; omega) ?_
      rw [getI_lt hi, w64_eq (n := (i : Int) + 1) ⟨by omega, by omega⟩]
      generalize xs[i] = d
      simp only [Option.bind_some]
      have e : ∀ n : Nat, decide ((n : Int) > 2000) = !decide (n ≤ 2000) := fun n => by
        rw [Bool.eq_iff_iff]
        simp only [Bool.not_eq_true', decide_eq_true_eq, decide_eq_false_iff_not]
        omega
      unfold smallDir
      rw [e, e, e, e]
      cases decide (d.Name_.length ≤ 2000) <;> cases decide (d.Uid_.length ≤ 2000) <;> cases decide (d.Gid_.length ≤ 2000) <;> cases decide (d.Muid_.length ≤ 2000) <;> simp
    · unfold law11_small_L1
      exact cond_f (by simp) rfl
    · cases xs.all smallDir <;> rfl

/-! ### Entries, contents and bounds -/
/-- The error of the first entry that is not valid. -/
def badR : List api_Dir → Int
  | [] => 0
  | x :: xs => if checkR x = 0 then badR xs else checkR x
def allGood (xs : List api_Dir) : Bool := xs.all (fun x => checkR x == 0)
theorem badR_good : ∀ (xs : List api_Dir), badR xs = 0 ↔ ∀ x ∈ xs, checkR x = 0
  | [] => by simp [badR]
  | x :: xs => by
    have ih := badR_good xs
    unfold badR
    by_cases h : checkR x = 0
    · rw [if_pos h, ih]; simp [h]
    · rw [if_neg h]; simp [h]
/-- Where entry i begins. -/
def bnd (xs : List api_Dir) (i : Nat) : Nat := (putsB (xs.take i)).length
def boundsN (xs : List api_Dir) (k : Nat) : List Int := (List.range (k + 1)).map fun i => (bnd xs i : Int)
theorem boundsN_succ (xs : List api_Dir) (k : Nat) : boundsN xs (k + 1) = boundsN xs k ++ [(bnd xs (k + 1) : Int)] := by
  unfold boundsN
  rw [List.range_succ, List.map_append]
  rfl
theorem boundsN_len (xs : List api_Dir) (k : Nat) : (boundsN xs k).length = k + 1 := by simp [boundsN]
theorem boundsN_get (xs : List api_Dir) (k i : Nat) (h : i ≤ k) : (boundsN xs k)[i]? = some (bnd xs i : Int) := by
  unfold boundsN
  rw [List.getElem?_map, List.getElem?_range (by omega)]
  rfl
theorem puts_take_succ (xs : List api_Dir) (i : Nat) (h : i < xs.length) : putsB (xs.take (i + 1)) = putsB (xs.take i) ++ putB xs[i] := by
  rw [List.take_add_one, List.getElem?_eq_getElem h]
  simp only [putsB, List.map_append, List.flatten_append, Option.toList_some, List.map_cons, List.map_nil, List.flatten_cons, List.flatten_nil, List.append_nil]
theorem bnd_succ (xs : List api_Dir) (i : Nat) (h : i < xs.length) : bnd xs (i + 1) = bnd xs i + (putB xs[i]).length := by
  unfold bnd
  rw [puts_take_succ xs i h, List.length_append]
theorem bnd_zero (xs : List api_Dir) : bnd xs 0 = 0 := rfl
def contR (xs : List api_Dir) : Str × List Int × Int := if badR xs = 0 then (putsB xs, boundsN xs xs.length, 0) else ([], [], badR xs)
def entR (xs : List api_Dir) : List Str × Int := if badR xs = 0 then (xs.map putB, 0) else ([], badR xs)
end Go.Proofs.Ytglcohgjcjaamaa
