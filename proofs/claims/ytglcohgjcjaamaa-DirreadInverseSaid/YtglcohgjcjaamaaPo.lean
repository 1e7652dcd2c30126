/-
  Plain laws of chapter 11: Pages, Bounds, Alls, Joins and Inverse. No program in sight.
-/
import Derived.Test.YtglcohgjcjaamaaPn
namespace Go.Proofs.Ytglcohgjcjaamaa
open Go.Rt Go.RowKit

theorem awake11_bind : (Option.bind law11_awake fun (y : Bool) => some y) = some true := by rw [awake11]; rfl
theorem not_small (xs : List api_Dir) (hl : xs.length ≤ 9223372036854775807) : (law11_small xs = some false) ∨ (law11_small xs = some true ∧ xs.length ≤ 60) := by
  rw [small_eq xs hl]
  by_cases h : xs.length ≤ 60
  · cases xs.all smallDir <;> simp [h]
  · simp [h]
theorem sameInts_self (xs : List Int) (hl : xs.length ≤ 1000) : ref11_SameInts xs xs = some true := by
  have hB : BIG = 18446744073709551616 := rfl
  unfold ref11_SameInts
  refine cond_f (by simp) ?_
  refine bind_eq (loop_all (body := ref11_SameInts_L1 xs xs) xs (fun _ => true) false (by omega) (fun i hi => ?_) ?_) (by simp)
  · unfold ref11_SameInts_L1
    refine cond_t (by simp only [decide_eq_true_eq]; omega) ?_
    refine bind_eq (getI_lt hi) (bind_eq (getI_lt hi) ?_)
    refine cond_f (by simp) ?_
    rw [w64_eq (n := (i : Int) + 1) ⟨by omega, by omega⟩, if_pos rfl]
    rfl
  · unfold ref11_SameInts_L1
    exact cond_f (by simp) rfl
theorem same_self (xs : List api_Dir) (hl : xs.length ≤ 1000) : ref11_Same xs xs = some true := by
  have hB : BIG = 18446744073709551616 := rfl
  unfold ref11_Same
  refine cond_f (by simp) ?_
  refine bind_eq (loop_all (body := ref11_Same_L1 xs xs) xs (fun _ => true) false (by omega) (fun i hi => ?_) ?_) (by simp)
  · unfold ref11_Same_L1
    refine cond_t (by simp only [decide_eq_true_eq]; omega) ?_
    refine bind_eq (getI_lt hi) (bind_eq (getI_lt hi) ?_)
    refine cond_f (by simp) ?_
    rw [w64_eq (n := (i : Int) + 1) ⟨by omega, by omega⟩, if_pos rfl]
    rfl
  · unfold ref11_Same_L1
    exact cond_f (by simp) rfl

theorem DirreadPages_true (x0 : List api_Dir) (x1 x2 : Int) (h0 : ∀ x ∈ x0, x.ok) (hl : x0.length ≤ 9223372036854775807) (_ : InK .i64 x1) (h2 : InK .i64 x2) : law11_DirreadPages x0 x1 x2 = some true := by
  unfold law11_DirreadPages
  rcases not_small x0 hl with hs | ⟨hs, h60⟩
  · exact bind_eq hs (cond_t rfl awake11_bind)
  · refine bind_eq hs (cond_f rfl ?_)
    obtain ⟨r, hd, hr⟩ := pages_eq h0 h60 x1 x2 h2.i64
    refine bind_eq hd (bind_eq hr ?_)
    exact bind_eq (cond_t (by simp) awake11_bind) rfl
theorem DirreadAlls_true (x0 : List api_Dir) (x1 : Int) (h0 : ∀ x ∈ x0, x.ok) (hl : x0.length ≤ 9223372036854775807) (h1 : InK .i64 x1) : law11_DirreadAlls x0 x1 = some true := by
  unfold law11_DirreadAlls
  rcases not_small x0 hl with hs | ⟨hs, h60⟩
  · exact bind_eq hs (cond_t rfl awake11_bind)
  · refine bind_eq hs (cond_f rfl ?_)
    obtain ⟨r, hd, hr⟩ := alls_eq h0 h60 x1 h1.i64
    refine bind_eq hd (bind_eq hr ?_)
    exact bind_eq (cond_t (by simp) awake11_bind) rfl
theorem isIn_loop (xs : List api_Dir) (hl : xs.length ≤ 60) (v : Int) : loopF (law11_DirreadBounds_L1 (boundsN xs xs.length, 0) v) BIG (false, 0) = some ((boundsN xs xs.length).contains v) := by
  have hB : BIG = 18446744073709551616 := rfl
  have hbl := boundsN_len xs xs.length
  have ht := loop_traj (body := law11_DirreadBounds_L1 (boundsN xs xs.length, 0) v) (fun k => (((boundsN xs xs.length).take k).contains v, (k : Int))) (boundsN xs xs.length).length (by omega) (b := (boundsN xs xs.length).contains v) (fun k hk => ?_) ?_
  · exact ht
  · unfold law11_DirreadBounds_L1
    refine cond_t (by simp only [decide_eq_true_eq]; omega) ?_
    have e : ((boundsN xs xs.length).take (k + 1)).contains v = (((boundsN xs xs.length).take k).contains v || ((boundsN xs xs.length)[k] == v)) := by
      rw [List.take_add_one, List.getElem?_eq_getElem hk, Bool.eq_iff_iff]
      simp only [Option.toList_some, List.contains_eq_mem, List.mem_append, List.mem_singleton, decide_eq_true_eq, Bool.or_eq_true, beq_iff_eq]
      constructor <;> (rintro (h | h); exact .inl h; exact .inr h.symm)
    refine bind_eq (a := ((boundsN xs xs.length).take (k + 1)).contains v) ?_ ?_
    · rw [e]
      rcases Bool.eq_false_or_eq_true (((boundsN xs xs.length).take k).contains v) with hc | hc
      · exact cond_t hc (by rw [hc]; rfl)
      · exact cond_f hc (bind_eq (getI_lt hk) (by rw [hc]; rfl))
    · rw [w64_eq (n := (k : Int) + 1) ⟨by omega, by omega⟩]
      rfl
  · unfold law11_DirreadBounds_L1
    refine cond_f (by simp only [decide_eq_false_iff_not]; omega) ?_
    rw [List.take_length]
theorem DirreadBounds_true (x0 : List api_Dir) (x1 : Int) (h0 : ∀ x ∈ x0, x.ok) (hl : x0.length ≤ 9223372036854775807) (_ : InK .i64 x1) : law11_DirreadBounds x0 x1 = some true := by
  unfold law11_DirreadBounds
  rcases not_small x0 hl with hs | ⟨hs, h60⟩
  · exact bind_eq hs (cond_t rfl awake11_bind)
  · refine bind_eq hs (cond_f rfl ?_)
    refine bind_eq (dBounds h0 h60) (bind_eq (rBounds h0 h60) ?_)
    by_cases hb : badR x0 = 0
    · rw [if_pos hb]
      have h := good_of hb h60
      refine bind_eq (sameInts_self _ (by rw [boundsN_len]; omega)) ?_
      refine cond_f rfl ?_
      by_cases hneg : x1 < 0
      · exact cond_t (by simp [hneg]) awake11_bind
      · refine cond_f (by simp; omega) ?_
        refine bind_eq (isIn_loop x0 h60 x1) ?_
        by_cases hx : ∃ i, i ≤ x0.length ∧ x1 = (bnd x0 i : Int)
        · obtain ⟨i, hi, rfl⟩ := hx
          obtain ⟨j, hf⟩ := fits_exists x0 hi (c := 1099511627776) (by omega)
          refine bind_eq (dPage h0 h hi hf (by omega)) ?_
          have hji : ¬ (j = i ∧ i < x0.length) := by
            rintro ⟨rfl, hlt⟩
            have := hf.next hlt
            have := bnd_step h hlt
            omega
          unfold pageR
          rw [if_neg hji]
          have hin : (boundsN x0 x0.length).contains (bnd x0 i : Int) = true := by
            simp only [List.contains_eq_mem, decide_eq_true_eq]
            exact List.mem_of_getElem? (boundsN_get x0 x0.length i hi)
          rw [hin]
          exact bind_eq (cond_t rfl awake11_bind) rfl
        · have hoff : ∀ i, i ≤ x0.length → x1 ≠ (bnd x0 i : Int) := fun i hi he => hx ⟨i, hi, he⟩
          refine bind_eq (dPage_none h0 h (by omega) (by omega) hoff) ?_
          have hin : (boundsN x0 x0.length).contains x1 = false := by
            simp only [List.contains_eq_mem, decide_eq_false_iff_not]
            intro hm
            obtain ⟨i, hi⟩ := List.mem_iff_getElem?.1 hm
            have hlt := (List.getElem?_eq_some_iff.1 hi).1
            rw [boundsN_len] at hlt
            rw [boundsN_get x0 x0.length i (by omega)] at hi
            exact hoff i (by omega) (Option.some.inj hi).symm
          rw [hin]
          exact bind_eq (cond_t rfl awake11_bind) rfl
    · rw [if_neg hb]
      refine bind_eq (sameInts_self [] (by simp)) ?_
      refine cond_f (by simp) ?_
      exact cond_t (by simp [hb]) awake11_bind
/-! ### Joins -/
theorem joins11_inner (xs : List api_Dir) (h : Good xs) {i j : Nat} {c : Int} (hi : i ≤ xs.length) (hf : Fits xs i c j) : loopF (law11_DirreadJoins_L2 (boundsN xs xs.length, 0) (part xs 0 j) (part xs i j, 0) c) BIG 0 = some (.fall ()) := by
  have hB : BIG = 18446744073709551616 := rfl
  have hbl := boundsN_len xs xs.length
  have hn := h.2
  have hle := hf.le
  have hlen := hf.len
  have ht := loop_traj (body := law11_DirreadJoins_L2 (boundsN xs xs.length, 0) (part xs 0 j) (part xs i j, 0) c) (fun k => (k : Int)) (xs.length + 1) (by omega) (b := .fall ()) (fun k hk => ?_) ?_
  · exact ht
  · have hg : getI (boundsN xs xs.length) (k : Int) = some (bnd xs k : Int) := by rw [getI_nat, boundsN_get xs xs.length k (by omega)]
    have hm := bnd_max h (i := k) (by omega)
    have hmi := bnd_max h hi
    have hmj := bnd_max h hlen
    have hpl := part_len h hle hlen
    have hbij := bnd_le h hle hlen
    have h0l := part0_len xs j
    unfold law11_DirreadJoins_L2
    refine cond_t (by simp only [decide_eq_true_eq]; omega) ?_
    refine bind_eq hg ?_
    refine bind_eq (a := false) ?_ (cond_f rfl ?_)
    · by_cases hkj : k ≤ j
      · have := bnd_le h hkj hlen
        refine cond_f ?_ rfl
        rw [Bool.and_eq_false_iff]
        left
        simp only [decide_eq_false_iff_not]
        omega
      · rcases Bool.eq_false_or_eq_true (decide ((bnd xs k : Int) > ((part xs 0 j).length : Int)) && !((part xs i j) == [])) with hcc | hcc
        · refine cond_t hcc ?_
          refine bind_eq hg ?_
          have hiff := hf.iff h (k := k) (by omega)
          rw [w64_eq (n := ((part xs 0 j).length : Int) - ((part xs i j).length : Int)) ⟨by omega, by omega⟩]
          rw [w64_eq ⟨by omega, by omega⟩]
          simp only [Option.some.injEq, decide_eq_false_iff_not]
          intro hc
          exact hkj (hiff.1 (by omega))
        · exact cond_f hcc rfl
    · rw [w64_eq (n := (k : Int) + 1) ⟨by omega, by omega⟩]
      rfl
  · unfold law11_DirreadJoins_L2
    exact cond_f (by simp only [decide_eq_false_iff_not, hbl]; omega) rfl
theorem joins11_loop {xs : List api_Dir} (hok : ∀ x ∈ xs, x.ok) (h : Good xs) {c : Int} (h0 : 0 ≤ c) (hL : ¬ Large xs 0 c) :
    loopF (law11_DirreadJoins_L1 xs c (boundsN xs xs.length, 0)) BIG ([], 0) = some (.fall (putsB xs)) := by
  have hB : BIG = 18446744073709551616 := rfl
  have hn := h.2
  have hbl := boundsN_len xs xs.length
  refine loopF_up (J := fun m s b => ∃ i, i ≤ xs.length ∧ (m ≤ i ∨ i = xs.length) ∧ s = (part xs 0 i, (m : Int)) ∧ b = .fall (putsB xs) ∧ ¬ Large xs i c) (xs.length + 1) (by omega) ?_ ?_ ⟨0, by omega, .inl (Nat.le_refl _), rfl, rfl, hL⟩
  · rintro s b ⟨i, h1, h2, rfl, rfl, _⟩
    obtain rfl : i = xs.length := by omega
    unfold law11_DirreadJoins_L1
    refine cond_f (by simp only [decide_eq_false_iff_not]; omega) ?_
    rw [part_full]
  · rintro m s b hm ⟨i, h1, h2, rfl, rfl, h3⟩
    obtain ⟨j, hf⟩ := fits_exists xs h1 h0
    have hle := hf.le
    have hlen := hf.len
    have hmx := bnd_max h hlen
    have hp := dPage hok h h1 hf h0
    have hpl := part_len h hle hlen
    unfold pageR at hp
    have hji : ¬ (j = i ∧ i < xs.length) := by
      rintro ⟨rfl, hlt⟩
      exact h3 (large_stop hf hlt)
    rw [if_neg hji] at hp
    right
    refine ⟨(part xs 0 j, ((m + 1 : Nat) : Int)), ?_, j, hlen, by omega, rfl, rfl, fun hh => h3 ((large_go h hf).2 hh)⟩
    unfold law11_DirreadJoins_L1
    refine cond_t (by simp only [decide_eq_true_eq]; omega) ?_
    refine bind_eq hp ?_
    refine bind_eq (a := false) ?_ (cond_f rfl ?_)
    · have hfit := hf.fit
      have hbij := bnd_le h hle hlen
      refine cond_f ?_ ?_
      · simp only [Bool.or_eq_false_iff, decide_eq_false_iff_not]
        exact ⟨rfl, by omega⟩
      · refine bind_eq (a := decide (i = xs.length)) ?_ ?_
        · refine cond_f (by simp only [decide_eq_false_iff_not]; omega) ?_
          rw [w64_eq (n := ((boundsN xs xs.length).length : Int) - 1) ⟨by omega, by omega⟩]
          refine bind_eq (show getI (boundsN xs xs.length) (((boundsN xs xs.length).length : Int) - 1) = some (bnd xs xs.length : Int) by
            rw [hbl, show ((xs.length + 1 : Nat) : Int) - 1 = ((xs.length : Nat) : Int) by omega, getI_nat, boundsN_get xs xs.length _ (Nat.le_refl _)]) ?_
          rw [part0_len]
          simp only [Option.some.injEq]
          rw [Bool.eq_iff_iff]
          simp only [beq_iff_eq, decide_eq_true_eq]
          constructor
          · intro he
            exact bnd_inj h h1 (Nat.le_refl _) (by omega)
          · rintro rfl; rfl
        · have : ((part xs i j) == []) = decide (i = xs.length) := by
            rw [Bool.eq_iff_iff]
            simp only [beq_iff_eq, decide_eq_true_eq]
            rw [← List.length_eq_zero_iff, hpl]
            constructor
            · intro he
              have : i = j := bnd_inj h h1 hlen (by omega)
              omega
            · rintro rfl
              obtain rfl : j = xs.length := by omega
              omega
          rw [this]
          simp
    · refine bind_eq (show cat (part xs 0 i) (part xs i j) = some (part xs 0 j) by
          rw [← part_cat xs hle]
          refine cat_eq ?_
          rw [← List.length_append, part_cat xs hle, part0_len]
          omega) ?_
      refine bind_eq (joins11_inner xs h h1 hf) ?_
      show some (Step.next (part xs 0 j, w64 ((m : Int) + 1))) = _
      rw [w64_eq (n := (m : Int) + 1) ⟨by omega, by omega⟩]
      rfl
theorem DirreadJoins_true (x0 : List api_Dir) (x1 : Int) (h0 : ∀ x ∈ x0, x.ok) (hl : x0.length ≤ 9223372036854775807) (_ : InK .i64 x1) : law11_DirreadJoins x0 x1 = some true := by
  unfold law11_DirreadJoins
  rcases not_small x0 hl with hs | ⟨hs, h60⟩
  · exact bind_eq hs (cond_t rfl awake11_bind)
  · refine bind_eq hs (cond_f rfl ?_)
    have hstop : ∀ e : Int, e ≠ 0 → dirread_All x0 x1 = some ([], e) → (Option.bind (dirread_All x0 x1) fun (y3 : Str × Int) =>
        Option.bind (dirread_Bounds x0) fun (y4 : (List Int) × Int) =>
        (bif ((y3.2 != 0) || (y4.2 != 0)) then
          Option.bind (bif (y3.1 == []) then
            Option.bind (law11_awake) fun (y6 : Bool) =>
            some y6
            else some false) fun (y5 : Bool) =>
          some y5
        else
          Option.bind (loopF (law11_DirreadJoins_L1 x0 x1 y4) BIG ([], 0)) fun (o1 : Out Str Bool) => match o1 with
          | .ret r => some r
          | .fall s1 =>
            Option.bind (bif (s1 == y3.1) then
              Option.bind (law11_awake) fun (y16 : Bool) =>
              some y16
              else some false) fun (y15 : Bool) =>
            some y15)) = some true := fun e he ha => by
      refine bind_eq ha (bind_eq (dBounds h0 h60) ?_)
      refine cond_t (by simp [he]) ?_
      exact bind_eq (cond_t rfl awake11_bind) rfl
    by_cases hn : x1 < 0
    · exact hstop 1 (by omega) (dAll_neg hn)
    · have h1 : 0 ≤ x1 := by omega
      by_cases hb : badR x0 = 0
      · have h := good_of hb h60
        by_cases hL : Large x0 0 x1
        · exact hstop 3 (by omega) (dAll_large h0 h h1 hL)
        · refine bind_eq (dAll_fine h0 h h1 hL) (bind_eq (dBounds h0 h60) ?_)
          rw [if_pos hb]
          refine cond_f rfl ?_
          refine bind_eq (joins11_loop h0 h h1 hL) ?_
          exact bind_eq (cond_t (by simp) awake11_bind) rfl
      · exact hstop _ hb (dAll_bad h0 h1 h60 hb)
theorem DirreadInverse_true (x0 : List api_Dir) (x1 : Int) (h0 : ∀ x ∈ x0, x.ok) (hl : x0.length ≤ 9223372036854775807) (_ : InK .i64 x1) : law11_DirreadInverse x0 x1 = some true := by
  unfold law11_DirreadInverse
  rcases not_small x0 hl with hs | ⟨hs, h60⟩
  · exact bind_eq hs (cond_t rfl awake11_bind)
  · refine bind_eq hs (cond_f rfl ?_)
    by_cases hn : x1 < 0
    · exact bind_eq (dAll_neg hn) (cond_t rfl (bind_eq (cond_t rfl awake11_bind) rfl))
    · have h1 : 0 ≤ x1 := by omega
      by_cases hb : badR x0 = 0
      · have h := good_of hb h60
        by_cases hL : Large x0 0 x1
        · exact bind_eq (dAll_large h0 h h1 hL) (cond_t rfl (bind_eq (cond_t rfl awake11_bind) rfl))
        · refine bind_eq (dAll_fine h0 h h1 hL) (cond_f rfl ?_)
          refine bind_eq (stat_all_puts x0 (fun x hx => ⟨h0 x hx, h.1 x hx⟩) (by omega)) ?_
          refine bind_eq (same_self x0 (by omega)) ?_
          exact bind_eq (cond_t rfl awake11_bind) rfl
      · refine bind_eq (dAll_bad h0 h1 h60 hb) (cond_t (by simpa using hb) ?_)
        exact bind_eq (cond_t rfl awake11_bind) rfl
end Go.Proofs.Ytglcohgjcjaamaa
