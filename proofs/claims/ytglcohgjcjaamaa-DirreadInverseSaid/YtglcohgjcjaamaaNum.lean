/-
  Numbers, loops and lists as plain data: lemmas for the plain laws. No program in sight.
-/
import Derived.Test.YtglcohgjcjaamaaOpen
import Derived.Laws.BitsLemmas
namespace Go
namespace Rt

theorem w64_eq {n : Int} (h : I64 n) : w64 n = n := by
  unfold w64; rw [IntKind.wrap_i64]; omega
theorem wi64_eq {n : Int} (h : I64 n) : IntKind.i64.wrap n = n := w64_eq h
theorem wu8 (n : Int) : IntKind.u8.wrap n = n % 256 := IntKind.wrap_u8 n
theorem wu64 (n : Int) : IntKind.u64.wrap n = n % 18446744073709551616 := by simp [IntKind.wrap, IntKind.bits, IntKind.signed]
theorem ofInt_nat {a : Nat} (ha : a < 2 ^ 64) : (BitVec.ofInt 64 (a : Int)).toNat = a := by
  rw [BitVec.toNat_ofInt]
  have : ((a : Int) % ((2 ^ 64 : Nat) : Int)) = ((a % 2 ^ 64 : Nat) : Int) := by omega
  rw [this]
  simp
  omega
theorem andI_nat {a b : Nat} (ha : a < 2 ^ 63) (hb : b < 2 ^ 63) : andI .i64 a b = ((a &&& b : Nat) : Int) := by
  have h1 : a &&& b < 2 ^ 63 := Nat.and_lt_two_pow a hb
  show IntKind.i64.wrap (((BitVec.ofInt 64 (a : Int) &&& BitVec.ofInt 64 (b : Int)).toNat : Nat) : Int) = _
  rw [BitVec.toNat_and, ofInt_nat (by omega), ofInt_nat (by omega)]
  exact wi64_eq ⟨by omega, by omega⟩
theorem orI_u64 {a b : Nat} (ha : a < 2 ^ 64) (hb : b < 2 ^ 64) : orI .u64 a b = ((a ||| b : Nat) : Int) := by
  have h1 : a ||| b < 2 ^ 64 := Nat.or_lt_two_pow ha hb
  show IntKind.u64.wrap (((BitVec.ofInt 64 (a : Int) ||| BitVec.ofInt 64 (b : Int)).toNat : Nat) : Int) = _
  rw [BitVec.toNat_or, ofInt_nat ha, ofInt_nat hb, wu64]
  omega
theorem andNotI_nat {a b : Nat} (ha : a < 2 ^ 63) (hb : b < 2 ^ 63) : andNotI .i64 a b = ((a &&& (2 ^ 64 - 1 - b) : Nat) : Int) := by
  have h1 : a &&& (2 ^ 64 - 1 - b) < 2 ^ 63 := Nat.lt_of_le_of_lt Nat.and_le_left ha
  show IntKind.i64.wrap (((BitVec.ofInt 64 (a : Int) &&& ~~~(BitVec.ofInt 64 (b : Int))).toNat : Nat) : Int) = _
  rw [BitVec.toNat_and, BitVec.toNat_not, ofInt_nat (by omega), ofInt_nat (by omega)]
  exact wi64_eq ⟨by omega, by omega⟩
/-- No bit of a lies outside b. -/
theorem andNot_zero {a b : Nat} (ha : a < 2 ^ 63) (hb : b < 2 ^ 63) : (andNotI .i64 a b == 0) = (andI .i64 a b == a) := by
  rw [andNotI_nat ha hb, andI_nat ha hb]
  rw [Bool.eq_iff_iff]
  simp only [beq_iff_eq]
  constructor
  · intro h
    have h' : a &&& (2 ^ 64 - 1 - b) = 0 := by omega
    have : a &&& b = a := by
      apply Nat.eq_of_testBit_eq
      intro i
      have hi := congrArg (fun n => n.testBit i) h'
      simp only [Nat.testBit_and, Nat.zero_testBit] at hi ⊢
      by_cases hi64 : i < 64
      · rw [show 2 ^ 64 - 1 - b = 2 ^ 64 - (b + 1) by omega, Nat.testBit_two_pow_sub_succ (by omega)] at hi
        simp only [hi64, decide_true, Bool.true_and] at hi
        cases h1 : a.testBit i <;> cases h2 : b.testBit i <;> simp_all
      · have : a.testBit i = false := Nat.testBit_lt_two_pow (Nat.lt_of_lt_of_le ha (Nat.pow_le_pow_right (by omega) (by omega)))
        simp [this]
    omega
  · intro h
    have h' : a &&& b = a := by omega
    have : a &&& (2 ^ 64 - 1 - b) = 0 := by
      apply Nat.eq_of_testBit_eq
      intro i
      have hi := congrArg (fun n => n.testBit i) h'
      simp only [Nat.testBit_and, Nat.zero_testBit] at hi ⊢
      by_cases hi64 : i < 64
      · rw [show 2 ^ 64 - 1 - b = 2 ^ 64 - (b + 1) by omega, Nat.testBit_two_pow_sub_succ (by omega)]
        simp only [hi64, decide_true, Bool.true_and]
        cases h1 : a.testBit i <;> cases h2 : b.testBit i <;> simp_all
      · have : a.testBit i = false := Nat.testBit_lt_two_pow (Nat.lt_of_lt_of_le ha (Nat.pow_le_pow_right (by omega) (by omega)))
        simp [this]
    omega
theorem and_le {a b : Nat} (h : a &&& b = a) : a ≤ b := by
  rw [← h]; exact Nat.and_le_right
/-- A bit, by 'and' and by division. -/
theorem bit_and {a k : Nat} : (a &&& 2 ^ k != 0) = (a / 2 ^ k % 2 == 1) := by
  have h1 : a &&& 2 ^ k = if a.testBit k then 2 ^ k else 0 := by
    apply Nat.eq_of_testBit_eq
    intro i
    rw [Nat.testBit_and, Nat.testBit_two_pow]
    by_cases hik : k = i
    · subst hik
      cases h : a.testBit k <;> simp
    · cases h : a.testBit k <;> simp [hik]
  rw [h1]
  have h2 : a.testBit k = decide (a / 2 ^ k % 2 = 1) := Nat.testBit_eq_decide_div_mod_eq
  by_cases h : a / 2 ^ k % 2 = 1
  · simp [h2, h]
  · simp [h2, h]

theorem bind_eq {α β : Type} {x : Option α} {a : α} {f : α → Option β} {r : Option β} (h : x = some a) (hr : f a = r) : x.bind f = r := by subst h; exact hr

theorem cond_t {α : Type} {c : Bool} {A B r : α} (hc : c = true) (h : A = r) : (bif c then A else B) = r := by subst hc; exact h
theorem cond_f {α : Type} {c : Bool} {A B r : α} (hc : c = false) (h : B = r) : (bif c then A else B) = r := by subst hc; exact h

/-! ### Loops -/
theorem loopF_run {σ β : Type} {body : σ → Option (Step σ β)} (I : Nat → σ → β → Prop)
    (h0 : ∀ s b, I 0 s b → body s = some (.done b))
    (h : ∀ k s b, I (k + 1) s b → body s = some (.done b) ∨ ∃ s', body s = some (.next s') ∧ I k s' b) : ∀ {k n : Nat} {s : σ} {b : β}, I k s b → k < n → loopF body n s = some b
  | 0, n + 1, s, b, hI, _ => by simp only [loopF, h0 s b hI]
  | k + 1, n + 1, s, b, hI, hk => by
    simp only [loopF]
    rcases h k s b hI with hd | ⟨s', hn, hI'⟩
    · rw [hd]
    · rw [hn]; exact loopF_run I h0 h hI' (by omega)
/-- .. a loop that counts up to n, with a state beside the counter. -/
theorem loopF_up {σ β : Type} {body : σ → Option (Step σ β)} (n : Nat) (hn : n < BIG) (J : Nat → σ → β → Prop) (h0 : ∀ s b, J n s b → body s = some (.done b))
    (h : ∀ i s b, i < n → J i s b → body s = some (.done b) ∨ ∃ s', body s = some (.next s') ∧ J (i + 1) s' b) {s : σ} {b : β} (hJ : J 0 s b) : loopF body BIG s = some b := by
  refine loopF_run (fun k s b => k ≤ n ∧ J (n - k) s b) (fun s b hI => h0 s b (by simpa using hI.2)) (fun k s b hI => ?_) (k := n) ⟨Nat.le_refl _, by simpa using hJ⟩ hn
  obtain ⟨hk, hI⟩ := hI
  rcases h _ s b (by omega) hI with hd | ⟨s', hs, hI'⟩
  · exact .inl hd
  · exact .inr ⟨s', hs, by omega, by rwa [show n - (k + 1) + 1 = n - k by omega] at hI'⟩
/-- A loop whose states are known, one by one. -/
theorem loop_traj {σ β : Type} {body : σ → Option (Step σ β)} (T : Nat → σ) (n : Nat) (hn : n < BIG) {b : β} (hs : ∀ i, i < n → body (T i) = some (.next (T (i + 1)))) (hd : body (T n) = some (.done b)) : loopF body BIG (T 0) = some b := by
  refine loopF_up (J := fun i s b' => s = T i ∧ b' = b) n hn (fun s b' hJ => ?_) (fun i s b' hi hJ => ?_) ⟨rfl, rfl⟩
  · obtain ⟨rfl, rfl⟩ := hJ
    exact hd
  · obtain ⟨rfl, rfl⟩ := hJ
    exact .inr ⟨_, hs i hi, rfl, rfl⟩
/-- A loop over a list that ends at the first element that fails. -/
theorem loop_all {α β : Type} {body : Int → Option (Step Int (Out Unit β))} (xs : List α) (p : α → Bool) (r : β) (hn : xs.length < BIG)
    (hb : ∀ i (h : i < xs.length), body (i : Int) = if p xs[i] then some (.next ((i + 1 : Nat) : Int)) else some (.done (.ret r)))
    (he : body (xs.length : Int) = some (.done (.fall ()))) : loopF body BIG 0 = some (if xs.all p then .fall () else .ret r) := by
  refine loopF_up (J := fun i s b => s = (i : Int) ∧ b = if (xs.drop i).all p then .fall () else .ret r) xs.length hn (fun s b hJ => ?_) (fun i s b hi hJ => ?_) (by simp)
  · obtain ⟨rfl, rfl⟩ := hJ
    rw [he]; simp
  · obtain ⟨rfl, rfl⟩ := hJ
    rw [hb i hi, List.drop_eq_getElem_cons hi, List.all_cons]
    cases hp : p xs[i] with
    | true => exact .inr ⟨_, rfl, rfl, by simp⟩
    | false => exact .inl (by simp)
/-- What two bodies say alike, their loops say alike. -/
theorem loopF_congr {σ β : Type} {f g : σ → Option (Step σ β)} (h : ∀ s, f s = g s) : loopF f = loopF g := by
  rw [show f = g from funext h]

/-! ### Lists by numbers -/
theorem getI_nat {α : Type} (xs : List α) (i : Nat) : getI xs (i : Int) = xs[i]? := by
  unfold getI; rw [if_pos (by omega)]; simp
theorem getI_lt {α : Type} {xs : List α} {i : Nat} (h : i < xs.length) : getI xs (i : Int) = some xs[i] := by
  rw [getI_nat, List.getElem?_eq_getElem h]
theorem byteI_lt {s : Str} {i : Nat} (h : i < s.length) : byteI s (i : Int) = some (s[i].toNat : Int) := by
  unfold byteI; rw [getI_lt h]; rfl
theorem byteI_nat (s : Str) (i : Nat) : byteI s (i : Int) = s[i]?.map fun b => (b.toNat : Int) := by
  unfold byteI; rw [getI_nat]
theorem cat_eq {a b : Str} (h : a.length + b.length ≤ 9223372036854775807) : cat a b = some (a ++ b) := by
  unfold cat; rw [if_pos h]
theorem room_eq {α : Type} {bytes : Nat} {xs ys : List α} (h1 : xs.length + ys.length ≤ 9223372036854775807) (h2 : (xs.length + ys.length) * bytes ≤ 140737488355328) : room bytes xs ys = some (xs ++ ys) := by
  unfold room; rw [if_pos ⟨h1, h2⟩]
theorem subI_eq {α : Type} {xs : List α} {lo hi : Int} (h0 : 0 ≤ lo) (h1 : lo ≤ hi) (h2 : hi ≤ xs.length) : subI xs lo hi = some ((xs.take hi.toNat).drop lo.toNat) := by
  unfold subI; rw [if_pos ⟨h0, h1, h2⟩]
theorem makeI_eq {α : Type} {bytes : Nat} {z : α} {n : Int} (h0 : 0 ≤ n) (h1 : n ≤ 9223372036854775807) (h2 : bytes * n ≤ 281474976710656) : makeI bytes z n = some (List.replicate n.toNat z) := by
  unfold makeI; rw [if_pos ⟨h0, h1, h2⟩]
theorem shrI_eq {k : IntKind} {x y : Int} (h : 0 ≤ y) (h2 : y ≤ k.bits) : shrI k x y = some (x.fdiv (2 ^ y.toNat)) := by
  unfold shrI; rw [if_neg (by omega), show min y.toNat k.bits = y.toNat by omega]
/-! ### Little-endian bytes -/
def byteAt (n : Int) (i : Nat) : Int := n.fdiv (2 ^ (8 * i)) % 256
def leL (n : Int) (w : Nat) : List Int := (List.range w).map (byteAt n)
def leB (n : Int) (w : Nat) : Str := bytesS (leL n w)
theorem leL_len (n : Int) (w : Nat) : (leL n w).length = w := by simp [leL]
theorem leB_len (n : Int) (w : Nat) : (leB n w).length = w := by simp [leB, bytesS, leL_len]
theorem leL_succ (n : Int) (w : Nat) : leL n (w + 1) = leL n w ++ [byteAt n w] := by simp [leL, List.range_succ]
theorem leB_succ (n : Int) (w : Nat) : leB n (w + 1) = leB n w ++ bytesS [byteAt n w] := by simp [leB, bytesS, leL_succ]
theorem shr_byte (n : Int) (i : Nat) (hi : i < 8) : shrI .i64 n (w64 (8 * (i : Int))) = some (n.fdiv (2 ^ (8 * i))) := by
  rw [w64_eq ⟨by omega, by omega⟩, shrI_eq (by omega) (by show 8 * (i : Int) ≤ (64 : Nat); omega)]
  rw [show (8 * (i : Int)).toNat = 8 * i by omega]
theorem set_mid {α : Type} (A : List α) (k : Nat) (z v : α) : (A ++ List.replicate (k + 1) z).set A.length v = A ++ [v] ++ List.replicate k z := by
  simp [List.replicate_succ]
theorem byteAt_neg (i : Nat) : byteAt (-1) i = 255 := by
  unfold byteAt
  have hp : (0 : Int) < 2 ^ (8 * i) := Int.pow_pos (by omega)
  have : (-1 : Int).fdiv (2 ^ (8 * i)) = -1 := by
    rw [Int.fdiv_eq_ediv_of_nonneg _ (by omega)]
    rw [Int.ediv_eq_iff_of_pos hp]
    omega
  rw [this]
  rfl
theorem str_beq {a b : Str} : (a == b) = decide (a = b) := by
  rw [Bool.eq_iff_iff]; simp
end Rt
end Go
