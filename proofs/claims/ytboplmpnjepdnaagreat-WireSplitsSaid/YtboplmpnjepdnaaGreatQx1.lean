import Derived.Test.YtboplmpnjepdnaaGreatOpen
import Derived.Laws.BitsLemmas
import Derived.Test.YtboplmpnjepdnaaGreatFns
import Derived.KernelRfl
/-
  Numbers, loops and lists as plain data: lemmas for the plain laws. No program in sight.
-/
namespace Go
namespace Rt

theorem w64_eq {n : Int} (h : I64 n) : w64 n = n := by
  unfold w64; rw [IntKind.wrap_i64]; omega
theorem wi64_eq {n : Int} (h : I64 n) : IntKind.i64.wrap n = n := w64_eq h
theorem wu8 (n : Int) : IntKind.u8.wrap n = n % 256 := IntKind.wrap_u8 n
theorem wu64 (n : Int) : IntKind.u64.wrap n = n % 18446744073709551616 := by simp [IntKind.wrap, IntKind.bits, IntKind.signed]
theorem ofInt_nat {a : Nat} (ha : a < 2 ^ 64) : (BitVec.ofInt 64 (a : Int)).toNat = a := by
  rw [BitVec.toNat_ofInt]
  have : ((a : Int) % ((2 ^ 64 : Nat) : Int)) = ((a % 2 ^ 64 : Nat) : Int) := by omega
  rw [this]
  simp
  omega
theorem andI_nat {a b : Nat} (ha : a < 2 ^ 63) (hb : b < 2 ^ 63) : andI .i64 a b = ((a &&& b : Nat) : Int) := by
  have h1 : a &&& b < 2 ^ 63 := Nat.and_lt_two_pow a hb
  show IntKind.i64.wrap (((BitVec.ofInt 64 (a : Int) &&& BitVec.ofInt 64 (b : Int)).toNat : Nat) : Int) = _
  rw [BitVec.toNat_and, ofInt_nat (by omega), ofInt_nat (by omega)]
  exact wi64_eq ⟨by omega, by omega⟩
theorem orI_u64 {a b : Nat} (ha : a < 2 ^ 64) (hb : b < 2 ^ 64) : orI .u64 a b = ((a ||| b : Nat) : Int) := by
  have h1 : a ||| b < 2 ^ 64 := Nat.or_lt_two_pow ha hb
  show IntKind.u64.wrap (((BitVec.ofInt 64 (a : Int) ||| BitVec.ofInt 64 (b : Int)).toNat : Nat) : Int) = _
  rw [BitVec.toNat_or, ofInt_nat ha, ofInt_nat hb, wu64]
  omega
theorem andNotI_nat {a b : Nat} (ha : a < 2 ^ 63) (hb : b < 2 ^ 63) : andNotI .i64 a b = ((a &&& (2 ^ 64 - 1 - b) : Nat) : Int) := by
  have h1 : a &&& (2 ^ 64 - 1 - b) < 2 ^ 63 := Nat.lt_of_le_of_lt Nat.and_le_left ha
  show IntKind.i64.wrap (((BitVec.ofInt 64 (a : Int) &&& ~~~(BitVec.ofInt 64 (b : Int))).toNat : Nat) : Int) = _
  rw [BitVec.toNat_and, BitVec.toNat_not, ofInt_nat (by omega), ofInt_nat (by omega)]
  exact wi64_eq ⟨by omega, by omega⟩
/-- No bit of a lies outside b. -/
theorem andNot_zero {a b : Nat} (ha : a < 2 ^ 63) (hb : b < 2 ^ 63) : (andNotI .i64 a b == 0) = (andI .i64 a b == a) := by
  rw [andNotI_nat ha hb, andI_nat ha hb]
  rw [Bool.eq_iff_iff]
  simp only [beq_iff_eq]
  constructor
  · intro h
    have h' : a &&& (2 ^ 64 - 1 - b) = 0 := by omega
    have : a &&& b = a := by
      apply Nat.eq_of_testBit_eq
      intro i
      have hi := congrArg (fun n => n.testBit i) h'
      simp only [Nat.testBit_and, Nat.zero_testBit] at hi ⊢
      by_cases hi64 : i < 64
      · rw [show 2 ^ 64 - 1 - b = 2 ^ 64 - (b + 1) by omega, Nat.testBit_two_pow_sub_succ (by omega)] at hi
        simp only [hi64, decide_true, Bool.true_and] at hi
        cases h1 : a.testBit i <;> cases h2 : b.testBit i <;> simp_all
      · have : a.testBit i = false := Nat.testBit_lt_two_pow (Nat.lt_of_lt_of_le ha (Nat.pow_le_pow_right (by omega) (by omega)))
        simp [this]
    omega
  · intro h
    have h' : a &&& b = a := by omega
    have : a &&& (2 ^ 64 - 1 - b) = 0 := by
      apply Nat.eq_of_testBit_eq
      intro i
      have hi := congrArg (fun n => n.testBit i) h'
      simp only [Nat.testBit_and, Nat.zero_testBit] at hi ⊢
      by_cases hi64 : i < 64
      · rw [show 2 ^ 64 - 1 - b = 2 ^ 64 - (b + 1) by omega, Nat.testBit_two_pow_sub_succ (by omega)]
        simp only [hi64, decide_true, Bool.true_and]
        cases h1 : a.testBit i <;> cases h2 : b.testBit i <;> simp_all
      · have : a.testBit i = false := Nat.testBit_lt_two_pow (Nat.lt_of_lt_of_le ha (Nat.pow_le_pow_right (by omega) (by omega)))
        simp [this]
    omega
theorem and_le {a b : Nat} (h : a &&& b = a) : a ≤ b := by
  rw [← h]; exact Nat.and_le_right
/-- A bit, by 'and' and by division. -/
theorem bit_and {a k : Nat} : (a &&& 2 ^ k != 0) = (a / 2 ^ k % 2 == 1) := by
  have h1 : a &&& 2 ^ k = if a.testBit k then 2 ^ k else 0 := by
    apply Nat.eq_of_testBit_eq
    intro i
    rw [Nat.testBit_and, Nat.testBit_two_pow]
    by_cases hik : k = i
    · subst hik
      cases h : a.testBit k <;> simp
    · cases h : a.testBit k <;> simp [hik]
  rw [h1]
  have h2 : a.testBit k = decide (a / 2 ^ k % 2 = 1) := Nat.testBit_eq_decide_div_mod_eq
  by_cases h : a / 2 ^ k % 2 = 1
  · simp [h2, h]
  · simp [h2, h]

theorem bind_eq {α β : Type} {x : Option α} {a : α} {f : α → Option β} {r : Option β} (h : x = some a) (hr : f a = r) : x.bind f = r := by subst h; exact hr

theorem cond_t {α : Type} {c : Bool} {A B r : α} (hc : c = true) (h : A = r) : (bif c then A else B) = r := by subst hc; exact h
theorem cond_f {α : Type} {c : Bool} {A B r : α} (hc : c = false) (h : B = r) : (bif c then A else B) = r := by subst hc; exact h

/-! ### Loops -/
theorem loopF_run {σ β : Type} {body : σ → Option (Step σ β)} (I : Nat → σ → β → Prop)
    (h0 : ∀ s b, I 0 s b → body s = some (.done b))
    (h : ∀ k s b, I (k + 1) s b → body s = some (.done b) ∨ ∃ s', body s = some (.next s') ∧ I k s' b) : ∀ {k n : Nat} {s : σ} {b : β}, I k s b → k < n → loopF body n s = some b
  | 0, n + 1, s, b, hI, _ => by simp only [loopF, h0 s b hI]
  | k + 1, n + 1, s, b, hI, hk => by
    simp only [loopF]
    rcases h k s b hI with hd | ⟨s', hn, hI'⟩
    · rw [hd]
    · rw [hn]; exact loopF_run I h0 h hI' (by omega)
/-- .. a loop that counts up to n, with a state beside the counter. -/
theorem loopF_up {σ β : Type} {body : σ → Option (Step σ β)} (n : Nat) (hn : n < BIG) (J : Nat → σ → β → Prop) (h0 : ∀ s b, J n s b → body s = some (.done b))
    (h : ∀ i s b, i < n → J i s b → body s = some (.done b) ∨ ∃ s', body s = some (.next s') ∧ J (i + 1) s' b) {s : σ} {b : β} (hJ : J 0 s b) : loopF body BIG s = some b := by
  refine loopF_run (fun k s b => k ≤ n ∧ J (n - k) s b) (fun s b hI => h0 s b (by simpa using hI.2)) (fun k s b hI => ?_) (k := n) ⟨Nat.le_refl _, by simpa using hJ⟩ hn
  obtain ⟨hk, hI⟩ := hI
  rcases h _ s b (by omega) hI with hd | ⟨s', hs, hI'⟩
  · exact .inl hd
  · exact .inr ⟨s', hs, by omega, by rwa [show n - (k + 1) + 1 = n - k by omega] at hI'⟩
/-- A loop whose states are known, one by one. -/
theorem loop_traj {σ β : Type} {body : σ → Option (Step σ β)} (T : Nat → σ) (n : Nat) (hn : n < BIG) {b : β} (hs : ∀ i, i < n → body (T i) = some (.next (T (i + 1)))) (hd : body (T n) = some (.done b)) : loopF body BIG (T 0) = some b := by
  refine loopF_up (J := fun i s b' => s = T i ∧ b' = b) n hn (fun s b' hJ => ?_) (fun i s b' hi hJ => ?_) ⟨rfl, rfl⟩
  · obtain ⟨rfl, rfl⟩ := hJ
    exact hd
  · obtain ⟨rfl, rfl⟩ := hJ
    exact .inr ⟨_, hs i hi, rfl, rfl⟩
/-- A loop over a list that ends at the first element that fails. -/
theorem loop_all {α β : Type} {body : Int → Option (Step Int (Out Unit β))} (xs : List α) (p : α → Bool) (r : β) (hn : xs.length < BIG)
    (hb : ∀ i (h : i < xs.length), body (i : Int) = if p xs[i] then some (.next ((i + 1 : Nat) : Int)) else some (.done (.ret r)))
    (he : body (xs.length : Int) = some (.done (.fall ()))) : loopF body BIG 0 = some (if xs.all p then .fall () else .ret r) := by
  refine loopF_up (J := fun i s b => s = (i : Int) ∧ b = if (xs.drop i).all p then .fall () else .ret r) xs.length hn (fun s b hJ => ?_) (fun i s b hi hJ => ?_) (by simp)
  · obtain ⟨rfl, rfl⟩ := hJ
    rw [he]; simp
  · obtain ⟨rfl, rfl⟩ := hJ
    rw [hb i hi, List.drop_eq_getElem_cons hi, List.all_cons]
    cases hp : p xs[i] with
    | true => exact .inr ⟨_, rfl, rfl, by simp⟩
    | false => exact .inl (by simp)
/-- What two bodies say alike, their loops say alike. -/
theorem loopF_congr {σ β : Type} {f g : σ → Option (Step σ β)} (h : ∀ s, f s = g s) : loopF f = loopF g := by
  rw [show f = g from funext h]

/-! ### Lists by numbers -/
theorem getI_nat {α : Type} (xs : List α) (i : Nat) : getI xs (i : Int) = xs[i]? := by
  unfold getI; rw [if_pos (by omega)]; simp
theorem getI_lt {α : Type} {xs : List α} {i : Nat} (h : i < xs.length) : getI xs (i : Int) = some xs[i] := by
  rw [getI_nat, List.getElem?_eq_getElem h]
theorem byteI_lt {s : Str} {i : Nat} (h : i < s.length) : byteI s (i : Int) = some (s[i].toNat : Int) := by
  unfold byteI; rw [getI_lt h]; rfl
theorem byteI_nat (s : Str) (i : Nat) : byteI s (i : Int) = s[i]?.map fun b => (b.toNat : Int) := by
  unfold byteI; rw [getI_nat]
theorem cat_eq {a b : Str} (h : a.length + b.length ≤ 9223372036854775807) : cat a b = some (a ++ b) := by
  unfold cat; rw [if_pos h]
theorem room_eq {α : Type} {bytes : Nat} {xs ys : List α} (h1 : xs.length + ys.length ≤ 9223372036854775807) (h2 : (xs.length + ys.length) * bytes ≤ 140737488355328) : room bytes xs ys = some (xs ++ ys) := by
  unfold room; rw [if_pos ⟨h1, h2⟩]
theorem subI_eq {α : Type} {xs : List α} {lo hi : Int} (h0 : 0 ≤ lo) (h1 : lo ≤ hi) (h2 : hi ≤ xs.length) : subI xs lo hi = some ((xs.take hi.toNat).drop lo.toNat) := by
  unfold subI; rw [if_pos ⟨h0, h1, h2⟩]
theorem makeI_eq {α : Type} {bytes : Nat} {z : α} {n : Int} (h0 : 0 ≤ n) (h1 : n ≤ 9223372036854775807) (h2 : bytes * n ≤ 281474976710656) : makeI bytes z n = some (List.replicate n.toNat z) := by
  unfold makeI; rw [if_pos ⟨h0, h1, h2⟩]
theorem shrI_eq {k : IntKind} {x y : Int} (h : 0 ≤ y) (h2 : y ≤ k.bits) : shrI k x y = some (x.fdiv (2 ^ y.toNat)) := by
  unfold shrI; rw [if_neg (by omega), show min y.toNat k.bits = y.toNat by omega]
/-! ### Little-endian bytes -/
def byteAt (n : Int) (i : Nat) : Int := n.fdiv (2 ^ (8 * i)) % 256
def leL (n : Int) (w : Nat) : List Int := (List.range w).map (byteAt n)
def leB (n : Int) (w : Nat) : Str := bytesS (leL n w)
theorem leL_len (n : Int) (w : Nat) : (leL n w).length = w := by simp [leL]
theorem leB_len (n : Int) (w : Nat) : (leB n w).length = w := by simp [leB, bytesS, leL_len]
theorem leL_succ (n : Int) (w : Nat) : leL n (w + 1) = leL n w ++ [byteAt n w] := by simp [leL, List.range_succ]
theorem leB_succ (n : Int) (w : Nat) : leB n (w + 1) = leB n w ++ bytesS [byteAt n w] := by simp [leB, bytesS, leL_succ]
theorem shr_byte (n : Int) (i : Nat) (hi : i < 8) : shrI .i64 n (w64 (8 * (i : Int))) = some (n.fdiv (2 ^ (8 * i))) := by
  rw [w64_eq ⟨by omega, by omega⟩, shrI_eq (by omega) (by show 8 * (i : Int) ≤ (64 : Nat); omega)]
  rw [show (8 * (i : Int)).toNat = 8 * i by omega]
theorem set_mid {α : Type} (A : List α) (k : Nat) (z v : α) : (A ++ List.replicate (k + 1) z).set A.length v = A ++ [v] ++ List.replicate k z := by
  simp [List.replicate_succ]
theorem byteAt_neg (i : Nat) : byteAt (-1) i = 255 := by
  unfold byteAt
  have hp : (0 : Int) < 2 ^ (8 * i) := Int.pow_pos (by omega)
  have : (-1 : Int).fdiv (2 ^ (8 * i)) = -1 := by
    rw [Int.fdiv_eq_ediv_of_nonneg _ (by omega)]
    rw [Int.ediv_eq_iff_of_pos hp]
    omega
  rw [this]
  rfl
theorem str_beq {a b : Str} : (a == b) = decide (a = b) := by
  rw [Bool.eq_iff_iff]; simp
end Rt
end Go

/-
  Plain laws: names, numbers and texts as bytes (path.Valid, octet.Put, octet.Get, octet.PutText, octet.GetText). No program in sight.
-/
namespace Go.Proofs.YtboplmpnjepdnaaGreat
open Go.Rt Go.RowKit

/-! ### Names -/
def okByte (b : UInt8) : Bool := decide (33 ≤ b.toNat) && decide (b.toNat ≤ 126) && (b.toNat != 47)
def okName (s : Str) : Bool := decide (1 ≤ s.length) && decide (s.length ≤ 64) && (s != [46]) && (s != [46, 46]) && s.all okByte
theorem path_loop (s : Str) (h : s.length ≤ 9223372036854775807) : loopF (path_Valid_L1 s) BIG 0 = some (if s.all okByte then .fall () else .ret false) := by
  have hB : BIG = 18446744073709551616 := rfl
  refine loop_all s okByte false (by omega) (fun i hi => ?_) ?_
  · unfold path_Valid_L1
    rw [byteI_lt hi]
    have h1 : decide ((i : Int) < (s.length : Int)) = true := by simp; omega
    rw [h1, w64_eq (n := (i : Int) + 1) ⟨by omega, by omega⟩]
    generalize s[i] = b
    simp only [cond_true, Option.bind_some]
    have e : okByte b = !(decide ((b.toNat : Int) < 33) || decide ((b.toNat : Int) > 126) || (b.toNat : Int) == 47) := by
      unfold okByte
      rw [Bool.eq_iff_iff]
      simp only [Bool.and_eq_true, decide_eq_true_eq, bne_iff_ne, Bool.not_eq_true', Bool.or_eq_false_iff, decide_eq_false_iff_not, beq_eq_false_iff_ne]
      omega
    rw [e]
    cases h1 : decide ((b.toNat : Int) < 33) <;> cases h2 : decide ((b.toNat : Int) > 126) <;> cases h3 : ((b.toNat : Int) == 47) <;> simp
  · unfold path_Valid_L1
    have h1 : decide ((s.length : Int) < (s.length : Int)) = false := by simp
    rw [h1]; rfl
theorem valid_eq (s : Str) (h : s.length ≤ 9223372036854775807) : path_Valid s = some (okName s) := by
  have hB : BIG = 18446744073709551616 := rfl
  unfold path_Valid okName
  rw [path_loop s h]
  simp only [Option.bind_some]
  have e1 : (s == []) = !decide (1 ≤ s.length) := by
    cases s with
    | nil => rfl
    | cons a l => rw [Bool.eq_iff_iff]; simp
  have e2 : decide ((s.length : Int) > 64) = !decide (s.length ≤ 64) := by
    rw [Bool.eq_iff_iff]; simp; omega
  rw [e1, e2]
  simp only [bne]
  cases decide (1 ≤ s.length) <;> cases decide (s.length ≤ 64) <;> cases (s == [46]) <;> cases (s == [46, 46]) <;> cases s.all okByte <;> simp
/-! ### Bytes of a number -/
theorem put_loop (n : Int) (w : Nat) (hw : w ≤ 8) : loopF (octet_Put_L1 (List.replicate w (0 : Int)) n) BIG (0, List.replicate w (0 : Int)) = some (leL n w) := by
  have hB : BIG = 18446744073709551616 := rfl
  have h := loop_traj (body := octet_Put_L1 (List.replicate w (0 : Int)) n) (fun i => ((i : Int), leL n i ++ List.replicate (w - i) (0 : Int))) w (by omega) (b := leL n w) (fun i hi => ?_) ?_
  · simpa [leL] using h
  · unfold octet_Put_L1
    have h1 : decide ((i : Int) < ((List.replicate w (0 : Int)).length : Int)) = true := by simp; omega
    simp only [h1, cond_true]
    rw [shr_byte n i (by omega)]
    simp only [Option.bind_some]
    have h2 : (leL n i ++ List.replicate (w - i) (0 : Int)).length = w := by simp [leL_len]; omega
    rw [getI_lt (by omega : i < (leL n i ++ List.replicate (w - i) (0 : Int)).length)]
    simp only [Option.bind_some, Int.toNat_natCast]
    rw [w64_eq (n := (i : Int) + 1) ⟨by omega, by omega⟩, wu8]
    have h3 := set_mid (leL n i) (w - (i + 1)) (0 : Int) (byteAt n i)
    rw [leL_len, show w - (i + 1) + 1 = w - i by omega] at h3
    rw [leL_succ]
    show some (Step.next ((i : Int) + 1, (leL n i ++ List.replicate (w - i) (0 : Int)).set i (byteAt n i))) = _
    rw [h3]
    rfl
  · unfold octet_Put_L1
    have h1 : decide ((w : Int) < ((List.replicate w (0 : Int)).length : Int)) = false := by simp
    simp only [h1, cond_false]
    simp
/-- A number that w bytes can hold. -/
def fitsW (n : Int) (w : Nat) : Bool := decide (0 ≤ n) && (decide (8 ≤ w) || decide (n < 2 ^ (8 * w)))
theorem octet_put_all (n : Int) (w : Nat) (h1 : 1 ≤ w) (h8 : w ≤ 8) : octet_Put n (w : Int) = some (if fitsW n w then (leB n w, 0) else ([], 5)) := by
  unfold octet_Put
  refine cond_f (by rw [Bool.or_eq_false_iff]; exact ⟨by simp; omega, by simp; omega⟩) ?_
  refine bind_eq (a := !(fitsW n w)) ?_ ?_
  · unfold fitsW
    by_cases h0 : n < 0
    · refine cond_t (by simpa using h0) ?_
      have : decide (0 ≤ n) = false := by simp; omega
      rw [this]; rfl
    · refine cond_f (by simpa using h0) ?_
      have h0' : decide (0 ≤ n) = true := by simp; omega
      rw [h0']
      by_cases hlt : w < 8
      · have e8 : decide (8 ≤ w) = false := by simp; omega
        rw [e8]
        refine bind_eq (a := !(decide (n < 2 ^ (8 * w)))) (cond_t (by simp; omega) (bind_eq (shr_byte n w hlt) ?_)) (by simp)
        have hp : (0 : Int) < 2 ^ (8 * w) := Int.pow_pos (by omega)
        rw [Int.fdiv_eq_ediv_of_nonneg _ (by omega)]
        congr 1
        by_cases hn : n < 2 ^ (8 * w)
        · rw [Int.ediv_eq_zero_of_lt (by omega) hn]
          simp [hn]
        · have : 1 ≤ n / 2 ^ (8 * w) := by
            rw [Int.le_ediv_iff_mul_le hp]; omega
          simp [hn]; omega
      · have e8 : decide (8 ≤ w) = true := by simp; omega
        rw [e8]
        exact bind_eq (a := false) (cond_f (by simp; omega) rfl) rfl
  · cases hf : fitsW n w with
    | false => exact cond_t rfl rfl
    | true =>
      refine cond_f rfl ?_
      refine bind_eq (makeI_eq (by omega) (by omega) (by omega)) ?_
      rw [Int.toNat_natCast]
      exact bind_eq (put_loop n w h8) rfl
theorem octet_put_eq (n : Int) (w : Nat) (h1 : 1 ≤ w) (h8 : w ≤ 8) (h0 : 0 ≤ n) (hn : w < 8 → n < 2 ^ (8 * w)) : octet_Put n (w : Int) = some (leB n w, 0) := by
  rw [octet_put_all n w h1 h8, if_pos]
  unfold fitsW
  rw [Bool.and_eq_true, Bool.or_eq_true]
  refine ⟨by simpa using h0, ?_⟩
  rcases Nat.lt_or_ge w 8 with h | h
  · exact .inr (by simpa using hn h)
  · exact .inl (by simpa using h)
def textB (s : Str) : Str := leB (s.length : Int) 2 ++ s
theorem textB_len (s : Str) : (textB s).length = 2 + s.length := by simp [textB, leB_len]
theorem text_put (s : Str) (h : s.length ≤ 65535) : octet_PutText s = some (textB s, 0) := by
  unfold octet_PutText
  have c : decide ((s.length : Int) > 65535) = false := by simp; omega
  rw [c]
  simp only [cond_false]
  have h2 := octet_put_eq (s.length : Int) 2 (by omega) (by omega) (by omega) (fun _ => by show (s.length : Int) < 2 ^ 16; omega)
  rw [show ((2 : Nat) : Int) = 2 from rfl] at h2
  rw [h2]
  simp only [Option.bind_some]
  rw [cat_eq (by rw [leB_len]; omega)]
  rfl
theorem text_put_all (s : Str) (hs : s.length ≤ 9223372036854775807) : octet_PutText s = some (if s.length ≤ 65535 then (textB s, 0) else ([], 4)) := by
  by_cases h : s.length ≤ 65535
  · rw [if_pos h]; exact text_put s h
  · rw [if_neg h]
    unfold octet_PutText
    exact cond_t (by simp; omega) rfl
/-! ### Values of bytes -/
def leV : Str → Nat
  | [] => 0
  | b :: r => b.toNat + 256 * leV r
theorem leV_lt : ∀ (s : Str), leV s < 2 ^ (8 * s.length)
  | [] => by simp [leV]
  | b :: r => by
    have h := leV_lt r
    have hb := b.toNat_lt
    simp only [leV, List.length_cons]
    rw [show 8 * (r.length + 1) = 8 * r.length + 8 by omega, Nat.pow_add]
    omega
def win (s : Str) (at_ w : Nat) : Str := (s.drop at_).take w
theorem win_len {s : Str} {at_ w : Nat} (h : at_ + w ≤ s.length) : (win s at_ w).length = w := by simp [win]; omega
theorem win_drop {s : Str} {at_ w j : Nat} (h : at_ + w ≤ s.length) (hj : j < w) : (win s at_ w).drop (w - (j + 1)) = s[at_ + (w - 1 - j)]'(by omega) :: (win s at_ w).drop (w - j) := by
  have hl := win_len h
  rw [List.drop_eq_getElem_cons (by omega : w - (j + 1) < (win s at_ w).length)]
  congr 1
  · simp only [win, List.getElem_take, List.getElem_drop]
    congr 1
    omega
  · congr 1
    omega
theorem or_byte (a b : Nat) (hb : b < 256) : (a * 256) ||| b = a * 256 + b := by
  have := Nat.shiftLeft_add_eq_or_of_lt (i := 8) (b := b) (by omega) a
  rw [Nat.shiftLeft_eq] at this
  exact this.symm
theorem get_loop (s : Str) (at_ w : Nat) (h1 : 1 ≤ w) (h8 : w ≤ 8) (h : at_ + w ≤ s.length) (hs : s.length ≤ 9223372036854775807) : loopF (octet_Get_L1 s (at_ : Int)) BIG (0, w64 ((w : Int) - 1)) = some (leV (win s at_ w) : Int) := by
  have hB : BIG = 18446744073709551616 := rfl
  have hw := loop_traj (body := octet_Get_L1 s (at_ : Int)) (fun j => (((leV ((win s at_ w).drop (w - j)) : Nat) : Int), (w : Int) - 1 - (j : Int))) w (by omega) (b := (leV (win s at_ w) : Int)) (fun j hj => ?_) ?_
  · have e : (win s at_ w).drop (w - 0) = [] := List.drop_eq_nil_of_le (by rw [win_len h]; omega)
    simp only [e, leV] at hw
    rw [w64_eq ⟨by omega, by omega⟩]
    simpa using hw
  · unfold octet_Get_L1
    have hlt := leV_lt ((win s at_ w).drop (w - j))
    have hdl : ((win s at_ w).drop (w - j)).length = j := by rw [List.length_drop, win_len h]; omega
    rw [hdl] at hlt
    have hpw : 2 ^ (8 * j) ≤ 2 ^ 56 := Nat.pow_le_pow_right (by omega) (by omega)
    refine cond_t (by simp; omega) ?_
    have ei : w64 ((at_ : Int) + ((w : Int) - 1 - (j : Int))) = ((at_ + (w - 1 - j) : Nat) : Int) := by
      rw [w64_eq ⟨by omega, by omega⟩]; omega
    show Option.bind (byteI s (w64 ((at_ : Int) + ((w : Int) - 1 - (j : Int))))) _ = _
    rw [ei]
    refine bind_eq (byteI_lt (by omega)) ?_
    rw [win_drop h hj]
    simp only [leV]
    generalize s[at_ + (w - 1 - j)]'(by omega) = b
    have hb := b.toNat_lt
    generalize leV ((win s at_ w).drop (w - j)) = v at hlt ⊢
    show some (Step.next (orI .u64 (IntKind.u64.wrap ((v : Int) * 2 ^ 8)) (IntKind.u64.wrap (b.toNat : Int)), w64 ((w : Int) - 1 - (j : Int) - 1))) = _
    have e1 : IntKind.u64.wrap ((v : Int) * 2 ^ 8) = ((v * 256 : Nat) : Int) := by rw [wu64]; omega
    have e2 : IntKind.u64.wrap (b.toNat : Int) = (b.toNat : Int) := by rw [wu64]; omega
    rw [e1, e2, orI_u64 (by omega) (by omega), or_byte _ _ hb, w64_eq ⟨by omega, by omega⟩]
    congr 3
    · omega
    · omega
  · unfold octet_Get_L1
    refine cond_f (by simp; omega) ?_
    simp
theorem get_eq (s : Str) (at_ w : Nat) (h1 : 1 ≤ w) (h8 : w ≤ 8) (h : at_ ≤ s.length) (hs : s.length ≤ 9223372036854775807) :
    octet_Get s (at_ : Int) (w : Int) = some (if s.length - at_ < w then (0, 0, 3) else if leV (win s at_ w) > 9223372036854775807 then (0, 0, 5) else ((leV (win s at_ w) : Int), ((at_ + w : Nat) : Int), 0)) := by
  unfold octet_Get
  refine cond_f (by simp; omega) ?_
  have el : w64 ((s.length : Int) - (at_ : Int)) = ((s.length - at_ : Nat) : Int) := by rw [w64_eq ⟨by omega, by omega⟩]; omega
  rw [el]
  by_cases hlt : s.length - at_ < w
  · rw [if_pos hlt]
    exact cond_t (by simp; omega) rfl
  · rw [if_neg hlt]
    refine cond_f (by simp; omega) ?_
    refine bind_eq (get_loop s at_ w h1 h8 (by omega) hs) ?_
    by_cases hv : leV (win s at_ w) > 9223372036854775807
    · rw [if_pos hv]
      exact cond_t (by simp; omega) rfl
    · rw [if_neg hv]
      refine cond_f (by simp; omega) ?_
      rw [w64_eq (n := (leV (win s at_ w) : Int)) ⟨by omega, by omega⟩, w64_eq (n := (at_ : Int) + (w : Int)) ⟨by omega, by omega⟩]
      rfl

theorem win_sub (s : Str) (at_ w : Nat) (h : at_ + w ≤ s.length) (hs : s.length ≤ 9223372036854775807) : subI s (at_ : Int) (w64 ((at_ : Int) + (w : Int))) = some (win s at_ w) := by
  rw [w64_eq ⟨by omega, by omega⟩, subI_eq (by omega) (by omega) (by omega)]
  congr 1
  simp only [win, Int.toNat_natCast]
  rw [show ((at_ : Int) + (w : Int)).toNat = at_ + w by omega, List.drop_take, show at_ + w - at_ = w by omega]
theorem win_whole (s : Str) : win s 0 s.length = s := by simp [win]
/-! ### Texts -/
/-- The text at an offset, and the offset behind it. -/
def takeT (s : Str) (a : Nat) : Option (Str × Nat) :=
  if s.length < a + 2 then none else if s.length < a + 2 + leV (win s a 2) then none else some (win s (a + 2) (leV (win s a 2)), a + 2 + leV (win s a 2))
theorem takeT_le {s t : Str} {a p : Nat} (h : takeT s a = some (t, p)) : p ≤ s.length ∧ t.length ≤ s.length ∧ a + 2 ≤ p := by
  unfold takeT at h
  split at h
  · cases h
  · split at h
    · cases h
    · rename_i h1 h2
      simp only [Option.some.injEq, Prod.mk.injEq] at h
      obtain ⟨rfl, rfl⟩ := h
      refine ⟨by omega, ?_, by omega⟩
      rw [win_len (by omega)]; omega
theorem two_bytes (s : Str) (a : Nat) (h : a + 2 ≤ s.length) : leV (win s a 2) = (s[a]'(by omega)).toNat + 256 * (s[a + 1]'(by omega)).toNat := by
  have e : win s a 2 = [s[a]'(by omega), s[a + 1]'(by omega)] := by
    unfold win
    rw [List.drop_eq_getElem_cons (by omega), List.drop_eq_getElem_cons (by omega)]
    rfl
  rw [e]
  simp [leV]
theorem leV_two (s : Str) (a : Nat) (h : a + 2 ≤ s.length) : leV (win s a 2) < 65536 := by
  have := leV_lt (win s a 2)
  rw [win_len h] at this
  exact this
theorem gettext_eq (s : Str) (a : Nat) (h : a ≤ s.length) (hs : s.length ≤ 1000000) : octet_GetText s (a : Int) = some (match takeT s a with | none => ([], 0, 3) | some (t, p) => (t, (p : Int), 0)) := by
  unfold octet_GetText
  have hg := get_eq s a 2 (by omega) (by omega) h (by omega)
  rw [show ((2 : Nat) : Int) = 2 from rfl] at hg
  unfold takeT
  by_cases h2 : s.length < a + 2
  · rw [if_pos (by omega)] at hg
    rw [if_pos h2]
    refine bind_eq hg ?_
    exact cond_t rfl rfl
  · have hv := leV_two s a (by omega)
    rw [if_neg (by omega), if_neg (by omega)] at hg
    rw [if_neg h2]
    refine bind_eq hg ?_
    refine cond_f rfl ?_
    have ew : w64 ((s.length : Int) - ((a + 2 : Nat) : Int)) = ((s.length - (a + 2) : Nat) : Int) := by rw [w64_eq ⟨by omega, by omega⟩]; omega
    have ex : w64 (((a + 2 : Nat) : Int) + (leV (win s a 2) : Int)) = ((a + 2 + leV (win s a 2) : Nat) : Int) := by rw [w64_eq ⟨by omega, by omega⟩]; omega
    by_cases h3 : s.length < a + 2 + leV (win s a 2)
    · rw [if_pos h3]
      refine cond_t ?_ rfl
      show decide (w64 ((s.length : Int) - ((a + 2 : Nat) : Int)) < (leV (win s a 2) : Int)) = true
      rw [ew]; simp only [decide_eq_true_eq]; omega
    · rw [if_neg h3]
      refine cond_f ?_ ?_
      · show decide (w64 ((s.length : Int) - ((a + 2 : Nat) : Int)) < (leV (win s a 2) : Int)) = false
        rw [ew]; simp only [decide_eq_false_iff_not]; omega
      refine bind_eq (win_sub s (a + 2) (leV (win s a 2)) (by omega) (by omega)) ?_
      show some (_, w64 (((a + 2 : Nat) : Int) + (leV (win s a 2) : Int)), (0 : Int)) = _
      rw [ex]
theorem leV_leL : ∀ (w : Nat) (n : Nat), n < 2 ^ (8 * w) → leV (leB (n : Int) w) = n := by
  have key : ∀ (l : Str) (b : UInt8), leV (l ++ [b]) = leV l + 2 ^ (8 * l.length) * b.toNat := by
    intro l
    induction l with
    | nil => intro b; simp [leV]
    | cons a l ih =>
      intro b
      simp only [List.cons_append, leV, ih, List.length_cons]
      rw [show 8 * (l.length + 1) = 8 * l.length + 8 by omega, Nat.pow_add, Nat.mul_add]
      have : 256 * (2 ^ (8 * l.length) * b.toNat) = 2 ^ (8 * l.length) * 2 ^ 8 * b.toNat := by
        rw [show (2 : Nat) ^ 8 = 256 from rfl, Nat.mul_comm (2 ^ (8 * l.length)) 256, Nat.mul_assoc]
      omega
  have gen : ∀ (w n : Nat), leV (leB (n : Int) w) = n % 2 ^ (8 * w) := by
    intro w
    induction w with
    | zero => intro n; simp [leB, leL, bytesS, leV, Nat.mod_one]
    | succ w ih =>
      intro n
      have hb : (byteAt (n : Int) w).toNat = n / 2 ^ (8 * w) % 256 := by
        unfold byteAt
        have hp : ((2 : Int) ^ (8 * w)) = ((2 ^ (8 * w) : Nat) : Int) := by simp
        rw [hp, Int.fdiv_eq_ediv_of_nonneg _ (Int.natCast_nonneg _)]
        have : ((n : Int) / ((2 ^ (8 * w) : Nat) : Int)) = ((n / 2 ^ (8 * w) : Nat) : Int) := rfl
        rw [this]
        generalize n / 2 ^ (8 * w) = q
        omega
      rw [leB_succ, show bytesS [byteAt (n : Int) w] = [UInt8.ofNat (byteAt (n : Int) w).toNat] from rfl, key, ih, leB_len, hb]
      have h8 : (UInt8.ofNat (n / 2 ^ (8 * w) % 256)).toNat = n / 2 ^ (8 * w) % 256 := by simp
      rw [h8, show 8 * (w + 1) = 8 * w + 8 by omega, Nat.pow_add, Nat.mod_mul]
  intro w n hn
  rw [gen, Nat.mod_eq_of_lt hn]
/-- Bytes are the bytes of their value. -/
theorem leB_leV : ∀ (s : Str), leB (leV s : Int) s.length = s := by
  have inj : ∀ (s t : Str), s.length = t.length → leV s = leV t → s = t := by
    intro s
    induction s with
    | nil => intro t h _; cases t with | nil => rfl | cons _ _ => simp at h
    | cons b s ih =>
      intro t h hv
      cases t with
      | nil => simp at h
      | cons c t =>
        simp only [leV] at hv
        have hb := b.toNat_lt
        have hc := c.toNat_lt
        have h1 : b.toNat = c.toNat := by omega
        have h2 : leV s = leV t := by omega
        rw [UInt8.toNat_inj.1 h1, ih t (by simpa using h) h2]
  intro s
  exact inj _ _ (leB_len _ _) (leV_leL _ _ (leV_lt s))
end Go.Proofs.YtboplmpnjepdnaaGreat

/-
  Plain laws: descriptions as bytes (stat.Check, stat.Put, stat.Get). No program in sight.
-/
namespace Go.Proofs.YtboplmpnjepdnaaGreat
open Go.Rt Go.RowKit

def api_Qid.ok (d : api_Qid) : Prop := InK .i64 d.Type_ ∧ InK .i64 d.Vers_ ∧ InK .i64 d.Path_
def api_Dir.ok (d : api_Dir) : Prop := InK .i64 d.Type_ ∧ InK .i64 d.Dev_ ∧ d.Qid_.ok ∧ InK .i64 d.Mode_ ∧ InK .i64 d.Atime_ ∧ InK .i64 d.Mtime_ ∧ InK .i64 d.Length_ ∧ d.Name_.length ≤ 9223372036854775807 ∧ d.Uid_.length ≤ 9223372036854775807 ∧ d.Gid_.length ≤ 9223372036854775807 ∧ d.Muid_.length ≤ 9223372036854775807
/-- A loop over a list that ends at the first element that fails; something stands beside the counter. -/
theorem loop_all2 {α β γ : Type} {body : Int × γ → Option (Step (Int × γ) (Out Unit β))} (c : γ) (xs : List α) (p : α → Bool) (r : β) (hn : xs.length < BIG)
    (hb : ∀ i (h : i < xs.length), body ((i : Int), c) = if p xs[i] then some (.next (((i + 1 : Nat) : Int), c)) else some (.done (.ret r)))
    (he : body ((xs.length : Int), c) = some (.done (.fall ()))) : loopF body BIG (0, c) = some (if xs.all p then .fall () else .ret r) := by
  refine loopF_up (J := fun i s b => s = ((i : Int), c) ∧ b = if (xs.drop i).all p then .fall () else .ret r) xs.length hn (fun s b hJ => ?_) (fun i s b hi hJ => ?_) (by simp)
  · obtain ⟨rfl, rfl⟩ := hJ
    rw [he]; simp
  · obtain ⟨rfl, rfl⟩ := hJ
    rw [hb i hi, List.drop_eq_getElem_cons hi, List.all_cons]
    cases hp : p xs[i] with
    | true => exact .inr ⟨_, rfl, rfl, by simp⟩
    | false => exact .inl (by simp)

def okNum (m : stat_number) : Bool := decide (-1 ≤ m.n_) && decide (m.n_ ≤ m.most_)
def numList (x : api_Dir) : List stat_number := [(stat_number.mk x.Type_ 2 65534), (stat_number.mk x.Dev_ 4 4294967294), (stat_number.mk x.Qid_.Type_ 1 232), (stat_number.mk x.Qid_.Vers_ 4 2147483647), (stat_number.mk x.Qid_.Path_ 8 1099511627776), (stat_number.mk x.Mode_ 4 3892314623), (stat_number.mk x.Atime_ 8 1099511627776), (stat_number.mk x.Mtime_ 8 1099511627776), (stat_number.mk x.Length_ 8 9007199254740991)]
theorem numbers_eq (x : api_Dir) : stat_numbers x = some (numList x) := rfl
theorem check_loop (ns : List stat_number) (h : ns.length ≤ 1000) : loopF (stat_Check_L1 ns) BIG (0, ns) = some (if ns.all okNum then .fall () else .ret 5) := by
  have hB : BIG = 18446744073709551616 := rfl
  refine loop_all2 ns ns okNum 5 (by omega) (fun i hi => ?_) ?_
  · unfold stat_Check_L1
    simp only
    rw [getI_lt hi]
    have h1 : decide ((i : Int) < (ns.length : Int)) = true := by simp; omega
    rw [h1, w64_eq (n := (i : Int) + 1) ⟨by omega, by omega⟩]
    generalize ns[i] = m
    simp only [cond_true, Option.bind_some]
    have e : okNum m = !(decide (m.n_ < -1) || decide (m.n_ > m.most_)) := by
      unfold okNum
      rw [Bool.eq_iff_iff]
      simp only [Bool.and_eq_true, decide_eq_true_eq, Bool.not_eq_true', Bool.or_eq_false_iff, decide_eq_false_iff_not]
      omega
    rw [e]
    cases decide (m.n_ < -1) <;> cases decide (m.n_ > m.most_) <;> simp
  · unfold stat_Check_L1
    have h1 : decide ((ns.length : Int) < (ns.length : Int)) = false := by simp
    rw [h1]; rfl
def okBits (x m : Int) : Bool := (x == -1) || (decide (x ≥ 0) && (andI .i64 x m == x))
def okIn (x m : Int) : Bool := (x == -1) || (decide (x ≥ 0) && decide (x ≤ m))
theorem within_eq (x : Int) (m : Nat) (hm : m < 2 ^ 63) (hx : x ≤ 9223372036854775807) : stat_within x (m : Int) = some (okBits x (m : Int)) := by
  unfold stat_within okBits
  by_cases h0 : 0 ≤ x
  · obtain ⟨n, rfl⟩ : ∃ n : Nat, x = (n : Int) := ⟨x.toNat, by omega⟩
    rw [andNot_zero (by omega) hm]
  · have h0' : decide (x ≥ 0) = false := by simp; omega
    rw [h0']
    simp
theorem bits_in (x : Int) (m : Nat) (hm : m < 2 ^ 63) (hx : x ≤ 9223372036854775807) (h : okBits x (m : Int) = true) : okIn x (m : Int) = true := by
  unfold okBits at h
  unfold okIn
  by_cases h0 : 0 ≤ x
  · obtain ⟨n, rfl⟩ : ∃ n : Nat, x = (n : Int) := ⟨x.toNat, by omega⟩
    rw [andI_nat (by omega) hm] at h
    simp only [Bool.or_eq_true, Bool.and_eq_true, beq_iff_eq, decide_eq_true_eq] at h ⊢
    rcases h with h | ⟨_, h⟩
    · exact .inl h
    · have : n &&& m = n := by omega
      have := and_le this
      exact .inr ⟨h0, by omega⟩
  · simp only [Bool.or_eq_true, Bool.and_eq_true, beq_iff_eq, decide_eq_true_eq] at h ⊢
    rcases h with h | ⟨h, _⟩
    · exact .inl h
    · omega
theorem okNum_in (n w m : Int) : okNum ⟨n, w, m⟩ = okIn n m ∨ m < -1 := by
  by_cases hm : m < -1
  · exact .inr hm
  · refine .inl ?_
    unfold okNum okIn
    rw [Bool.eq_iff_iff]
    simp only [Bool.or_eq_true, Bool.and_eq_true, beq_iff_eq, decide_eq_true_eq]
    omega
def okNums (x : api_Dir) : Bool := okIn x.Type_ 65534 && okIn x.Dev_ 4294967294 && okBits x.Qid_.Type_ 232 && okIn x.Qid_.Vers_ 2147483647 && okIn x.Qid_.Path_ 1099511627776 && okBits x.Mode_ 3892314623 && okIn x.Atime_ 1099511627776 && okIn x.Mtime_ 1099511627776 && okIn x.Length_ 9007199254740991
def okTexts (x : api_Dir) : Bool := (x.Name_ == [] || x.Name_ == [47] || okName x.Name_) && decide (x.Uid_.length ≤ 64) && decide (x.Gid_.length ≤ 64) && decide (x.Muid_.length ≤ 64)
def checkR (x : api_Dir) : Int := if okNums x then (if okTexts x then 0 else 6) else 5
theorem numList_ok (x : api_Dir) (h : x.ok) : ((numList x).all okNum && okBits x.Qid_.Type_ 232 && okBits x.Mode_ 3892314623) = okNums x := by
  have e := fun n w m (hm : ¬ m < -1) => (okNum_in n w m).resolve_right hm
  have b1 := bits_in x.Qid_.Type_ 232 (by omega) h.2.2.1.1.2
  have b2 := bits_in x.Mode_ 3892314623 (by omega) h.2.2.2.1.2
  unfold okNums numList
  simp only [List.all_cons, List.all_nil, e _ _ _ (show ¬ (65534 : Int) < -1 by omega), e _ _ _ (show ¬ (4294967294 : Int) < -1 by omega), e _ _ _ (show ¬ (232 : Int) < -1 by omega), e _ _ _ (show ¬ (2147483647 : Int) < -1 by omega), e _ _ _ (show ¬ (1099511627776 : Int) < -1 by omega), e _ _ _ (show ¬ (3892314623 : Int) < -1 by omega), e _ _ _ (show ¬ (9007199254740991 : Int) < -1 by omega)]
  simp only [Int.cast_ofNat_Int] at b1 b2
  cases h1 : okBits x.Qid_.Type_ 232 <;> cases h2 : okBits x.Mode_ 3892314623 <;> simp_all [Bool.and_assoc]
theorem check_eq (x : api_Dir) (h : x.ok) (hn : x.Name_.length ≤ 9223372036854775807) : stat_Check x = some (checkR x) := by
  have hl := numList_ok x h
  have w1 := within_eq x.Qid_.Type_ 232 (by omega) h.2.2.1.1.2
  have w2 := within_eq x.Mode_ 3892314623 (by omega) h.2.2.2.1.2
  simp only [Int.cast_ofNat_Int] at w1 w2
  unfold stat_Check checkR
  rw [numbers_eq]
  simp only [Option.bind_some]
  rw [check_loop (numList x) (show (9 : Nat) ≤ 1000 by decide)]
  simp only [Option.bind_some]
  rw [← hl]
  cases h1 : (numList x).all okNum with
  | false => simp
  | true =>
    simp only [if_true]
    rw [w1, w2, valid_eq _ hn]
    simp only [Option.bind_some]
    have em : decide (maxI (maxI (x.Uid_.length : Int) (x.Gid_.length : Int)) (x.Muid_.length : Int) > 64) = !(decide (x.Uid_.length ≤ 64) && decide (x.Gid_.length ≤ 64) && decide (x.Muid_.length ≤ 64)) := by
      rw [Bool.eq_iff_iff]
      simp only [Bool.not_eq_true', Bool.and_eq_false_iff, decide_eq_true_eq, decide_eq_false_iff_not]
      unfold maxI
      split <;> split <;> omega
    rw [em]
    unfold okTexts
    cases okBits x.Qid_.Type_ 232 <;> cases okBits x.Mode_ 3892314623 <;> cases (x.Name_ == []) <;> cases (x.Name_ == [47]) <;> cases okName x.Name_ <;> cases decide (x.Uid_.length ≤ 64) <;> cases decide (x.Gid_.length ≤ 64) <;> cases decide (x.Muid_.length ≤ 64) <;> simp
theorem repeat_eq (w : Nat) (hw : w ≤ 8) : strings_Repeat [255] (w : Int) = some (leB (-1) w) := by
  unfold strings_Repeat
  rw [if_pos ⟨by omega, by omega, by simp; omega⟩]
  simp only [Int.toNat_natCast, Option.some.injEq]
  unfold leB leL
  induction w with
  | zero => rfl
  | succ k ih =>
    rw [List.replicate_succ', List.flatten_append, ih (by omega), List.range_succ, List.map_append]
    simp [bytesS, byteAt_neg]
theorem number_put (m : stat_number) (w : Nat) (hw : m.width_ = (w : Int)) (h1 : 1 ≤ w) (h8 : w ≤ 8) (hok : okNum m = true) (hm : w < 8 → m.most_ < 2 ^ (8 * w)) : stat_put m = some (leB m.n_ w) := by
  unfold stat_put
  unfold okNum at hok
  simp only [Bool.and_eq_true, decide_eq_true_eq] at hok
  rw [hw]
  by_cases hn : m.n_ = -1
  · have c : (m.n_ == -1) = true := by simp [hn]
    rw [c, hn, repeat_eq w h8]; rfl
  · have c : (m.n_ == -1) = false := by simp [hn]
    rw [c, octet_put_eq m.n_ w h1 h8 (by omega) (fun h => by have := hm h; omega)]; rfl
def numsB (x : api_Dir) : Str := leB x.Type_ 2 ++ leB x.Dev_ 4 ++ leB x.Qid_.Type_ 1 ++ leB x.Qid_.Vers_ 4 ++ leB x.Qid_.Path_ 8 ++ leB x.Mode_ 4 ++ leB x.Atime_ 8 ++ leB x.Mtime_ 8 ++ leB x.Length_ 8
def bodyB (x : api_Dir) : Str := numsB x ++ textB x.Name_ ++ textB x.Uid_ ++ textB x.Gid_ ++ textB x.Muid_
def putB (x : api_Dir) : Str := leB ((bodyB x).length : Int) 2 ++ bodyB x
theorem numsB_len (x : api_Dir) : (numsB x).length = 47 := by simp [numsB, leB_len]
theorem bodyB_len (x : api_Dir) : (bodyB x).length = 55 + x.Name_.length + x.Uid_.length + x.Gid_.length + x.Muid_.length := by simp [bodyB, numsB_len, textB_len]; omega
theorem putB_len (x : api_Dir) : (putB x).length = 57 + x.Name_.length + x.Uid_.length + x.Gid_.length + x.Muid_.length := by simp [putB, leB_len, bodyB_len]; omega
theorem checkR_zero (x : api_Dir) (h : checkR x = 0) : okNums x = true ∧ okTexts x = true := by
  unfold checkR at h
  cases h1 : okNums x <;> cases h2 : okTexts x <;> simp_all
theorem texts_len (x : api_Dir) (h : okTexts x = true) : x.Name_.length ≤ 64 ∧ x.Uid_.length ≤ 64 ∧ x.Gid_.length ≤ 64 ∧ x.Muid_.length ≤ 64 := by
  unfold okTexts okName at h
  simp only [Bool.and_eq_true, Bool.or_eq_true, beq_iff_eq, decide_eq_true_eq] at h
  obtain ⟨⟨⟨hn, h1⟩, h2⟩, h3⟩ := h
  refine ⟨?_, h1, h2, h3⟩
  rcases hn with (hn | hn) | hn
  · rw [hn]; simp
  · rw [hn]; simp
  · omega
theorem nums_put_loop (x : api_Dir) (hok : (numList x).all okNum = true) : loopF (stat_Put_L1 (numList x)) BIG ([], 0, numList x) = some (numsB x) := by
  have hl : (numList x).length = 9 := rfl
  simp only [numList, List.all_cons, List.all_nil, Bool.and_true, Bool.and_eq_true] at hok
  obtain ⟨o0, o1, o2, o3, o4, o5, o6, o7, o8⟩ := hok
  have s0 := number_put _ 2 rfl (by omega) (by omega) o0 (fun _ => by show (65534 : Int) < 2 ^ 16; omega)
  have s1 := number_put _ 4 rfl (by omega) (by omega) o1 (fun _ => by show (4294967294 : Int) < 2 ^ 32; omega)
  have s2 := number_put _ 1 rfl (by omega) (by omega) o2 (fun _ => by show (232 : Int) < 2 ^ 8; omega)
  have s3 := number_put _ 4 rfl (by omega) (by omega) o3 (fun _ => by show (2147483647 : Int) < 2 ^ 32; omega)
  have s4 := number_put _ 8 rfl (by omega) (by omega) o4 (fun h => by omega)
  have s5 := number_put _ 4 rfl (by omega) (by omega) o5 (fun _ => by show (3892314623 : Int) < 2 ^ 32; omega)
  have s6 := number_put _ 8 rfl (by omega) (by omega) o6 (fun h => by omega)
  have s7 := number_put _ 8 rfl (by omega) (by omega) o7 (fun h => by omega)
  have s8 := number_put _ 8 rfl (by omega) (by omega) o8 (fun h => by omega)
  let bs : List Str := [leB x.Type_ 2, leB x.Dev_ 4, leB x.Qid_.Type_ 1, leB x.Qid_.Vers_ 4, leB x.Qid_.Path_ 8, leB x.Mode_ 4, leB x.Atime_ 8, leB x.Mtime_ 8, leB x.Length_ 8]
  have step : ∀ (i : Nat) (m : stat_number) (b acc : Str), i < 9 → (numList x)[i]? = some m → stat_put m = some b → acc.length ≤ 1000 → b.length ≤ 8 → stat_Put_L1 (numList x) (acc, (i : Int), numList x) = some (.next (acc ++ b, ((i + 1 : Nat) : Int), numList x)) := fun i m b acc hi hm hp ha hb => by
    unfold stat_Put_L1
    have h1 : decide ((i : Int) < ((numList x).length : Int)) = true := by rw [hl]; simp; omega
    simp only [h1, cond_true]
    rw [getI_nat, hm]
    simp only [Option.bind_some]
    rw [hp]
    simp only [Option.bind_some]
    rw [cat_eq (by omega)]
    simp only [Option.bind_some]
    rw [w64_eq (n := (i : Int) + 1) ⟨by omega, by omega⟩]
    rfl
  have h := loop_traj (body := stat_Put_L1 (numList x)) (fun i => ((bs.take i).flatten, (i : Int), numList x)) 9 (by show (9 : Nat) < 18446744073709551616; omega) (b := numsB x) (fun i hi => ?_) ?_
  · exact h
  · have hcases : i = 0 ∨ i = 1 ∨ i = 2 ∨ i = 3 ∨ i = 4 ∨ i = 5 ∨ i = 6 ∨ i = 7 ∨ i = 8 := by omega
    have hlen : ((bs.take i).flatten).length ≤ 1000 := by
      rcases hcases with rfl | rfl | rfl | rfl | rfl | rfl | rfl | rfl | rfl <;> simp [bs, leB_len]
    rcases hcases with rfl | rfl | rfl | rfl | rfl | rfl | rfl | rfl | rfl
    · exact (step 0 _ _ _ (by omega) rfl s0 hlen (by rw [leB_len]; omega)).trans (by simp [bs])
    · exact (step 1 _ _ _ (by omega) rfl s1 hlen (by rw [leB_len]; omega)).trans (by simp [bs])
    · exact (step 2 _ _ _ (by omega) rfl s2 hlen (by rw [leB_len]; omega)).trans (by simp [bs])
    · exact (step 3 _ _ _ (by omega) rfl s3 hlen (by rw [leB_len]; omega)).trans (by simp [bs])
    · exact (step 4 _ _ _ (by omega) rfl s4 hlen (by rw [leB_len]; omega)).trans (by simp [bs])
    · exact (step 5 _ _ _ (by omega) rfl s5 hlen (by rw [leB_len]; omega)).trans (by simp [bs])
    · exact (step 6 _ _ _ (by omega) rfl s6 hlen (by rw [leB_len]; omega)).trans (by simp [bs])
    · exact (step 7 _ _ _ (by omega) rfl s7 hlen (by rw [leB_len]; omega)).trans (by simp [bs])
    · exact (step 8 _ _ _ (by omega) rfl s8 hlen (by rw [leB_len]; omega)).trans (by simp [bs])
  · unfold stat_Put_L1
    have h1 : decide (((9 : Nat) : Int) < ((numList x).length : Int)) = false := by rw [hl]; simp
    simp only [h1, cond_false]
    simp [bs, numsB]
theorem texts_put_loop (x : api_Dir) (hx : x.Name_.length ≤ 1000 ∧ x.Uid_.length ≤ 1000 ∧ x.Gid_.length ≤ 1000 ∧ x.Muid_.length ≤ 1000) : loopF (stat_Put_L2 x) BIG (numsB x, 0, [x.Name_, x.Uid_, x.Gid_, x.Muid_]) = some (.fall (bodyB x)) := by
  let ts : List Str := [x.Name_, x.Uid_, x.Gid_, x.Muid_]
  have hl : ts.length = 4 := rfl
  have step : ∀ (i : Nat) (t acc : Str), i < 4 → ts[i]? = some t → t.length ≤ 1000 → acc.length ≤ 10000 → stat_Put_L2 x (acc, (i : Int), [x.Name_, x.Uid_, x.Gid_, x.Muid_]) = some (.next (acc ++ textB t, ((i + 1 : Nat) : Int), [x.Name_, x.Uid_, x.Gid_, x.Muid_])) := fun i t acc hi ht hlt ha => by
    unfold stat_Put_L2
    have h1 : decide ((i : Int) < ([x.Name_, x.Uid_, x.Gid_, x.Muid_].length : Int)) = true := by simp; omega
    simp only [h1, cond_true]
    rw [getI_nat, show [x.Name_, x.Uid_, x.Gid_, x.Muid_][i]? = some t from ht]
    simp only [Option.bind_some]
    rw [text_put t (by omega)]
    simp only [Option.bind_some, bne_self_eq_false, cond_false]
    rw [cat_eq (by rw [textB_len]; omega)]
    simp only [Option.bind_some]
    rw [w64_eq (n := (i : Int) + 1) ⟨by omega, by omega⟩]
    rfl
  have h := loop_traj (body := stat_Put_L2 x) (fun i => (numsB x ++ ((ts.take i).map textB).flatten, (i : Int), [x.Name_, x.Uid_, x.Gid_, x.Muid_])) 4 (by show (4 : Nat) < 18446744073709551616; omega) (b := .fall (bodyB x)) (fun i hi => ?_) ?_
  · simpa using h
  · have hcases : i = 0 ∨ i = 1 ∨ i = 2 ∨ i = 3 := by omega
    have hlen : (numsB x ++ ((ts.take i).map textB).flatten).length ≤ 10000 := by
      rcases hcases with rfl | rfl | rfl | rfl <;> simp [ts, numsB_len, textB_len] <;> omega
    rcases hcases with rfl | rfl | rfl | rfl
    · exact (step 0 _ _ (by omega) rfl hx.1 hlen).trans (by simp [ts])
    · exact (step 1 _ _ (by omega) rfl hx.2.1 hlen).trans (by simp [ts])
    · exact (step 2 _ _ (by omega) rfl hx.2.2.1 hlen).trans (by simp [ts])
    · exact (step 3 _ _ (by omega) rfl hx.2.2.2 hlen).trans (by simp [ts])
  · unfold stat_Put_L2
    have h1 : decide (((4 : Nat) : Int) < ([x.Name_, x.Uid_, x.Gid_, x.Muid_].length : Int)) = false := by simp
    simp only [h1, cond_false]
    simp [ts, bodyB]
def putR (x : api_Dir) : Str × Int := if checkR x = 0 then (putB x, 0) else ([], checkR x)
theorem put_eq (x : api_Dir) (h : x.ok) (hn : x.Name_.length ≤ 9223372036854775807) : stat_Put x = some (putR x) := by
  unfold stat_Put putR
  rw [check_eq x h hn]
  simp only [Option.bind_some]
  by_cases hc : checkR x = 0
  · obtain ⟨hN, hT⟩ := checkR_zero x hc
    have htl := texts_len x hT
    have hnl := numList_ok x h
    rw [hN] at hnl
    simp only [Bool.and_eq_true] at hnl
    have c : (checkR x != 0) = false := by simp [hc]
    rw [c, if_pos hc, numbers_eq]
    simp only [cond_false, Option.bind_some]
    rw [nums_put_loop x hnl.1.1]
    simp only [Option.bind_some]
    rw [texts_put_loop x (by omega)]
    simp only [Option.bind_some]
    have hbl := bodyB_len x
    have h2 := octet_put_eq ((bodyB x).length : Int) 2 (by omega) (by omega) (by omega) (fun _ => by show ((bodyB x).length : Int) < 2 ^ 16; omega)
    rw [show ((2 : Nat) : Int) = 2 from rfl] at h2
    rw [h2]
    simp only [Option.bind_some]
    rw [cat_eq (by rw [leB_len]; omega)]
    rfl
  · have c : (checkR x != 0) = true := by simp [hc]
    rw [c, if_neg hc]
    rfl
def all255 (s : Str) : Bool := s.all (· == 255)
def numF (s : Str) : Int := if all255 s then -1 else if leV s > 9223372036854775807 then 9223372036854775807 else (leV s : Int)
def numR (s : Str) : Int := if all255 s then -1 else if leV s > 9223372036854775807 then -2 else (leV s : Int)
theorem count_255 (s : Str) : ((s.count 255 : Nat) : Int) = (s.length : Int) ↔ all255 s = true := by
  unfold all255
  rw [List.all_eq_true]
  simp only [beq_iff_eq]
  rw [show (((s.count 255 : Nat) : Int) = (s.length : Int)) ↔ s.count 255 = s.length by omega, List.count_eq_length]
  constructor
  · intro h x hx; exact (h x hx).symm
  · intro h x hx; exact (h x hx).symm
theorem reader_number_eq (s : Str) (at_ w : Nat) (h1 : 1 ≤ w) (h8 : w ≤ 8) (h : at_ + w ≤ s.length) (hs : s.length ≤ 9223372036854775807) :
    stat_reader_number ⟨s, (at_ : Int), true⟩ (w : Int) = some (numR (win s at_ w), ⟨s, ((at_ + w : Nat) : Int), true⟩) := by
  have ea : w64 ((at_ : Int) + (w : Int)) = ((at_ + w : Nat) : Int) := by rw [w64_eq ⟨by omega, by omega⟩]; omega
  have hwl := win_len h
  unfold stat_reader_number
  refine cond_f ?_ ?_
  · show (!true || decide (w64 ((s.length : Int) - (at_ : Int)) < (w : Int))) = false
    rw [w64_eq (n := (s.length : Int) - (at_ : Int)) ⟨by omega, by omega⟩]
    simp; omega
  refine bind_eq (win_sub s at_ w h hs) ?_
  refine bind_eq (a := (((win s at_ w).count 255 : Nat) : Int)) rfl ?_
  unfold numR
  have hc := count_255 (win s at_ w)
  rw [hwl] at hc
  by_cases h255 : all255 (win s at_ w) = true
  · refine cond_t (by simpa using hc.2 h255) ?_
    rw [if_pos h255, ← ea]
  · refine cond_f (by rw [beq_eq_false_iff_ne]; exact fun hh => h255 (hc.1 hh)) ?_
    rw [if_neg h255]
    have hg := get_eq (win s at_ w) 0 w h1 h8 (by omega) (by omega)
    rw [hwl, if_neg (by omega)] at hg
    have hww : win (win s at_ w) 0 w = win s at_ w := by have := win_whole (win s at_ w); rwa [hwl] at this
    rw [hww] at hg
    refine bind_eq hg ?_
    by_cases hv : leV (win s at_ w) > 9223372036854775807
    · rw [if_pos hv, if_pos hv]
      refine cond_t rfl ?_
      rw [← ea]
    · rw [if_neg hv, if_neg hv]
      refine cond_f rfl ?_
      rw [← ea]
theorem loop_next {σ β : Type} {body : σ → Option (Step σ β)} {n : Nat} {s s' : σ} {r : Option β} (h : body s = some (.next s')) (hr : loopF body n s' = r) : loopF body (n + 1) s = r := by
  simp only [loopF, h]; exact hr
theorem loop_done {σ β : Type} {body : σ → Option (Step σ β)} {n : Nat} {s : σ} {b : β} (h : body s = some (.done b)) : loopF body (n + 1) s = some b := by
  simp only [loopF, h]
theorem reader_text_ok (s : Str) (a : Nat) (h : a ≤ s.length) (hs : s.length ≤ 1000000) :
    stat_reader_text ⟨s, (a : Int), true⟩ = some (match takeT s a with | none => ([], ⟨s, (a : Int), false⟩) | some (t, p) => (t, ⟨s, (p : Int), true⟩)) := by
  unfold stat_reader_text
  refine cond_f rfl ?_
  refine bind_eq (gettext_eq s a h hs) ?_
  cases takeT s a with
  | none => exact cond_t rfl rfl
  | some x => exact cond_f rfl rfl
theorem reader_text_no (s : Str) (a : Int) : stat_reader_text ⟨s, a, false⟩ = some ([], ⟨s, a, false⟩) := by
  unfold stat_reader_text
  exact cond_t rfl rfl
theorem reader_number_no (s : Str) (a w : Int) : stat_reader_number ⟨s, a, false⟩ w = some (0, ⟨s, a, false⟩) := by
  unfold stat_reader_number
  exact cond_t rfl rfl
theorem reader_number_short (s : Str) (a w : Nat) (h : a ≤ s.length) (hw : s.length < a + w) (hs : s.length ≤ 1000000) : stat_reader_number ⟨s, (a : Int), true⟩ (w : Int) = some (0, ⟨s, (a : Int), false⟩) := by
  unfold stat_reader_number
  refine cond_t ?_ rfl
  show (!true || decide (w64 ((s.length : Int) - (a : Int)) < (w : Int))) = true
  rw [w64_eq ⟨by omega, by omega⟩]
  simp; omega
theorem reader_number_any (s : Str) (a w : Nat) (ok : Bool) (h1 : 1 ≤ w) (h8 : w ≤ 8) (h : a ≤ s.length) (hs : s.length ≤ 1000000) :
    ∃ (v : Int) (a' : Nat) (ok' : Bool), stat_reader_number ⟨s, (a : Int), ok⟩ (w : Int) = some (v, ⟨s, (a' : Int), ok'⟩) ∧ a' ≤ s.length ∧ (ok' = true → ok = true ∧ a' = a + w) := by
  cases ok with
  | false => exact ⟨0, a, false, reader_number_no s a w, h, fun hh => by cases hh⟩
  | true =>
    by_cases hw : s.length < a + w
    · exact ⟨0, a, false, reader_number_short s a w h hw hs, h, fun hh => by cases hh⟩
    · exact ⟨_, a + w, true, reader_number_eq s a w h1 h8 (by omega) (by omega), by omega, fun _ => ⟨rfl, rfl⟩⟩
theorem reader_text_any (s : Str) (a : Nat) (ok : Bool) (h : a ≤ s.length) (hs : s.length ≤ 1000000) :
    ∃ (t : Str) (a' : Nat) (ok' : Bool), stat_reader_text ⟨s, (a : Int), ok⟩ = some (t, ⟨s, (a' : Int), ok'⟩) ∧ a' ≤ s.length ∧ (ok' = true → ok = true) := by
  cases ok with
  | false => exact ⟨[], a, false, reader_text_no s a, h, fun hh => by cases hh⟩
  | true =>
    have ht := reader_text_ok s a h hs
    cases hk : takeT s a with
    | none => rw [hk] at ht; exact ⟨[], a, false, ht, h, fun hh => by cases hh⟩
    | some x => rw [hk] at ht; exact ⟨x.1, x.2, true, ht, (takeT_le hk).1, fun _ => rfl⟩
theorem read_short (s : Str) (hs : s.length < 47) : ∃ d at_, stat_reader_read ⟨s, 0, true⟩ = some (d, ⟨s, at_, false⟩) := by
  have hl : s.length ≤ 1000000 := by omega
  obtain ⟨v1, a1, k1, e1, b1, o1⟩ := reader_number_any s 0 2 true (by omega) (by omega) (by omega) hl
  obtain ⟨v2, a2, k2, e2, b2, o2⟩ := reader_number_any s a1 4 k1 (by omega) (by omega) b1 hl
  obtain ⟨v3, a3, k3, e3, b3, o3⟩ := reader_number_any s a2 1 k2 (by omega) (by omega) b2 hl
  obtain ⟨v4, a4, k4, e4, b4, o4⟩ := reader_number_any s a3 4 k3 (by omega) (by omega) b3 hl
  obtain ⟨v5, a5, k5, e5, b5, o5⟩ := reader_number_any s a4 8 k4 (by omega) (by omega) b4 hl
  obtain ⟨v6, a6, k6, e6, b6, o6⟩ := reader_number_any s a5 4 k5 (by omega) (by omega) b5 hl
  obtain ⟨v7, a7, k7, e7, b7, o7⟩ := reader_number_any s a6 8 k6 (by omega) (by omega) b6 hl
  obtain ⟨v8, a8, k8, e8, b8, o8⟩ := reader_number_any s a7 8 k7 (by omega) (by omega) b7 hl
  obtain ⟨v9, a9, k9, e9, b9, o9⟩ := reader_number_any s a8 8 k8 (by omega) (by omega) b8 hl
  obtain ⟨t1, c1, q1, f1, d1, p1⟩ := reader_text_any s a9 k9 b9 hl
  obtain ⟨t2, c2, q2, f2, d2, p2⟩ := reader_text_any s c1 q1 d1 hl
  obtain ⟨t3, c3, q3, f3, d3, p3⟩ := reader_text_any s c2 q2 d2 hl
  obtain ⟨t4, c4, q4, f4, d4, p4⟩ := reader_text_any s c3 q3 d3 hl
  have hq : q4 = false := by
    cases hq : q4 with
    | false => rfl
    | true =>
      have g9 := p1 (p2 (p3 (p4 hq)))
      obtain ⟨g8, r9⟩ := o9 g9
      obtain ⟨g7, r8⟩ := o8 g8
      obtain ⟨g6, r7⟩ := o7 g7
      obtain ⟨g5, r6⟩ := o6 g6
      obtain ⟨g4, r5⟩ := o5 g5
      obtain ⟨g3, r4⟩ := o4 g4
      obtain ⟨g2, r3⟩ := o3 g3
      obtain ⟨g1, r2⟩ := o2 g2
      obtain ⟨_, r1⟩ := o1 g1
      omega
  subst hq
  refine ⟨⟨v1, v2, ⟨v3, v4, v5⟩, v6, v7, v8, v9, t1, t2, t3, t4⟩, (c4 : Int), ?_⟩
  unfold stat_reader_read
  refine bind_eq e1 ?_
  refine bind_eq e2 ?_
  refine bind_eq e3 ?_
  refine bind_eq e4 ?_
  refine bind_eq e5 ?_
  refine bind_eq e6 ?_
  refine bind_eq e7 ?_
  refine bind_eq e8 ?_
  refine bind_eq e9 ?_
  refine bind_eq f1 ?_
  refine bind_eq f2 ?_
  refine bind_eq f3 ?_
  refine bind_eq f4 ?_
  rfl
def take4 (s : Str) (a : Nat) : Option (Str × Str × Str × Str × Nat) :=
  match takeT s a with
  | none => none
  | some (t1, p1) => match takeT s p1 with
    | none => none
    | some (t2, p2) => match takeT s p2 with
      | none => none
      | some (t3, p3) => match takeT s p3 with
        | none => none
        | some (t4, p4) => some (t1, t2, t3, t4, p4)
def dirR (s t1 t2 t3 t4 : Str) : api_Dir := ⟨numR (win s 0 2), numR (win s 2 4), ⟨numR (win s 6 1), numR (win s 7 4), numR (win s 11 8)⟩, numR (win s 19 4), numR (win s 23 8), numR (win s 31 8), numR (win s 39 8), t1, t2, t3, t4⟩
theorem read_long (s : Str) (hs : 47 ≤ s.length) (hl : s.length ≤ 1000000) : match take4 s 47 with
    | some (t1, t2, t3, t4, p) => stat_reader_read ⟨s, 0, true⟩ = some (dirR s t1 t2 t3 t4, ⟨s, (p : Int), true⟩)
    | none => ∃ d at_, stat_reader_read ⟨s, 0, true⟩ = some (d, ⟨s, at_, false⟩) := by
  have e1 := reader_number_eq s 0 2 (by omega) (by omega) (by omega) (by omega)
  have e2 := reader_number_eq s 2 4 (by omega) (by omega) (by omega) (by omega)
  have e3 := reader_number_eq s 6 1 (by omega) (by omega) (by omega) (by omega)
  have e4 := reader_number_eq s 7 4 (by omega) (by omega) (by omega) (by omega)
  have e5 := reader_number_eq s 11 8 (by omega) (by omega) (by omega) (by omega)
  have e6 := reader_number_eq s 19 4 (by omega) (by omega) (by omega) (by omega)
  have e7 := reader_number_eq s 23 8 (by omega) (by omega) (by omega) (by omega)
  have e8 := reader_number_eq s 31 8 (by omega) (by omega) (by omega) (by omega)
  have e9 := reader_number_eq s 39 8 (by omega) (by omega) (by omega) (by omega)
  have key : ∀ (t1 t2 t3 t4 : Str) (r1 r2 r3 r4 : stat_reader), stat_reader_text ⟨s, ((47 : Nat) : Int), true⟩ = some (t1, r1) → stat_reader_text r1 = some (t2, r2) → stat_reader_text r2 = some (t3, r3) → stat_reader_text r3 = some (t4, r4) →
      stat_reader_read ⟨s, 0, true⟩ = some (dirR s t1 t2 t3 t4, r4) := by
    intro t1 t2 t3 t4 r1 r2 r3 r4 f1 f2 f3 f4
    unfold stat_reader_read
    refine bind_eq e1 ?_
    refine bind_eq e2 ?_
    refine bind_eq e3 ?_
    refine bind_eq e4 ?_
    refine bind_eq e5 ?_
    refine bind_eq e6 ?_
    refine bind_eq e7 ?_
    refine bind_eq e8 ?_
    refine bind_eq e9 ?_
    refine bind_eq f1 ?_
    refine bind_eq f2 ?_
    refine bind_eq f3 ?_
    refine bind_eq f4 ?_
    rfl
  have ht1 := reader_text_ok s 47 (by omega) hl
  unfold take4
  cases h1 : takeT s 47 with
  | none =>
    rw [h1] at ht1
    exact ⟨_, _, key _ _ _ _ _ _ _ _ ht1 (reader_text_no _ _) (reader_text_no _ _) (reader_text_no _ _)⟩
  | some x1 =>
    obtain ⟨t1, p1⟩ := x1
    rw [h1] at ht1
    have l1 := (takeT_le h1).1
    have ht2 := reader_text_ok s p1 l1 hl
    simp only
    cases h2 : takeT s p1 with
    | none =>
      rw [h2] at ht2
      exact ⟨_, _, key _ _ _ _ _ _ _ _ ht1 ht2 (reader_text_no _ _) (reader_text_no _ _)⟩
    | some x2 =>
      obtain ⟨t2, p2⟩ := x2
      rw [h2] at ht2
      have l2 := (takeT_le h2).1
      have ht3 := reader_text_ok s p2 l2 hl
      simp only
      cases h3 : takeT s p2 with
      | none =>
        rw [h3] at ht3
        exact ⟨_, _, key _ _ _ _ _ _ _ _ ht1 ht2 ht3 (reader_text_no _ _)⟩
      | some x3 =>
        obtain ⟨t3, p3⟩ := x3
        rw [h3] at ht3
        have l3 := (takeT_le h3).1
        have ht4 := reader_text_ok s p3 l3 hl
        simp only
        cases h4 : takeT s p3 with
        | none =>
          rw [h4] at ht4
          exact ⟨_, _, key _ _ _ _ _ _ _ _ ht1 ht2 ht3 ht4⟩
        | some x4 =>
          obtain ⟨t4, p4⟩ := x4
          rw [h4] at ht4
          exact key _ _ _ _ _ _ _ _ ht1 ht2 ht3 ht4
theorem win_shift (s : Str) (k a w : Nat) : win (s.drop k) a w = win s (k + a) w := by simp [win, List.drop_drop]
theorem takeT_shift (s : Str) (k a : Nat) (hk : k ≤ s.length) : takeT (s.drop k) a = (takeT s (k + a)).map fun x => (x.1, x.2 - k) := by
  unfold takeT
  rw [win_shift, win_shift, List.length_drop]
  rw [show k + (a + 2) = k + a + 2 by omega]
  by_cases h1 : s.length < k + a + 2
  · rw [if_pos (by omega), if_pos h1]; rfl
  · rw [if_neg (by omega), if_neg h1]
    by_cases h2 : s.length < k + a + 2 + leV (win s (k + a) 2)
    · rw [if_pos (by omega), if_pos h2]; rfl
    · rw [if_neg (by omega), if_neg h2]
      simp only [Option.map_some, Option.some.injEq, Prod.mk.injEq, true_and]
      omega
theorem take4_shift (s : Str) (k : Nat) (hk : k ≤ s.length) : take4 (s.drop k) 0 = (take4 s k).map fun x => (x.1, x.2.1, x.2.2.1, x.2.2.2.1, x.2.2.2.2 - k) := by
  unfold take4
  rw [takeT_shift s k 0 hk, Nat.add_zero]
  cases h1 : takeT s k with
  | none => rfl
  | some x1 =>
    obtain ⟨t1, p1⟩ := x1
    have g1 := takeT_le h1
    simp only [Option.map_some]
    rw [takeT_shift s k (p1 - k) hk, show k + (p1 - k) = p1 by omega]
    cases h2 : takeT s p1 with
    | none => rfl
    | some x2 =>
      obtain ⟨t2, p2⟩ := x2
      have g2 := takeT_le h2
      simp only [Option.map_some]
      rw [takeT_shift s k (p2 - k) hk, show k + (p2 - k) = p2 by omega]
      cases h3 : takeT s p2 with
      | none => rfl
      | some x3 =>
        obtain ⟨t3, p3⟩ := x3
        have g3 := takeT_le h3
        simp only [Option.map_some]
        rw [takeT_shift s k (p3 - k) hk, show k + (p3 - k) = p3 by omega]
        cases h4 : takeT s p3 with
        | none => rfl
        | some x4 => rfl
def zeroDir : api_Dir := api_Dir.mk 0 0 (api_Qid.mk 0 0 0) 0 0 0 0 [] [] [] []
theorem num_small (s : Str) (h : s.length ≤ 4) : numR s = numF s := by
  have hl := leV_lt s
  have hp : 2 ^ (8 * s.length) ≤ 2 ^ 32 := Nat.pow_le_pow_right (by omega) (by omega)
  unfold numR numF
  split
  · rfl
  · rw [if_neg (by omega), if_neg (by omega)]
theorem num_any (s : Str) : numR s = numF s ∨ (numR s = -2 ∧ numF s = 9223372036854775807) := by
  unfold numR numF
  split
  · exact .inl rfl
  · split
    · exact .inr ⟨rfl, rfl⟩
    · exact .inl rfl
theorem numR_in (s : Str) : InK .i64 (numR s) := by
  show -9223372036854775808 ≤ numR s ∧ numR s ≤ 9223372036854775807
  unfold numR
  split
  · omega
  · split <;> omega
theorem take4_le {s t1 t2 t3 t4 : Str} {a p : Nat} (h : take4 s a = some (t1, t2, t3, t4, p)) : p ≤ s.length ∧ t1.length ≤ s.length ∧ t2.length ≤ s.length ∧ t3.length ≤ s.length ∧ t4.length ≤ s.length ∧ a + 8 ≤ p := by
  unfold take4 at h
  cases h1 : takeT s a with
  | none => rw [h1] at h; cases h
  | some x1 =>
    obtain ⟨u1, p1⟩ := x1
    rw [h1] at h
    simp only at h
    cases h2 : takeT s p1 with
    | none => rw [h2] at h; cases h
    | some x2 =>
      obtain ⟨u2, p2⟩ := x2
      rw [h2] at h
      simp only at h
      cases h3 : takeT s p2 with
      | none => rw [h3] at h; cases h
      | some x3 =>
        obtain ⟨u3, p3⟩ := x3
        rw [h3] at h
        simp only at h
        cases h4 : takeT s p3 with
        | none => rw [h4] at h; cases h
        | some x4 =>
          obtain ⟨u4, p4⟩ := x4
          rw [h4] at h
          simp only [Option.some.injEq, Prod.mk.injEq] at h
          obtain ⟨rfl, rfl, rfl, rfl, rfl⟩ := h
          have g1 := takeT_le h1
          have g2 := takeT_le h2
          have g3 := takeT_le h3
          have g4 := takeT_le h4
          omega
theorem dirR_ok (s t1 t2 t3 t4 : Str) (h1 : t1.length ≤ 1000000) (h2 : t2.length ≤ 1000000) (h3 : t3.length ≤ 1000000) (h4 : t4.length ≤ 1000000) : (dirR s t1 t2 t3 t4).ok :=
  ⟨numR_in _, numR_in _, ⟨numR_in _, numR_in _, numR_in _⟩, numR_in _, numR_in _, numR_in _, numR_in _, by show t1.length ≤ _; omega, by show t2.length ≤ _; omega, by show t3.length ≤ _; omega, by show t4.length ≤ _; omega⟩
end Go.Proofs.YtboplmpnjepdnaaGreat

/-
  Plain laws: descriptions, read from bytes, and read back. No program in sight.
-/
namespace Go.Proofs.YtboplmpnjepdnaaGreat
open Go.Rt Go.RowKit

def dirF (s t1 t2 t3 t4 : Str) : api_Dir := ⟨numF (win s 0 2), numF (win s 2 4), ⟨numF (win s 6 1), numF (win s 7 4), numF (win s 11 8)⟩, numF (win s 19 4), numF (win s 23 8), numF (win s 31 8), numF (win s 39 8), t1, t2, t3, t4⟩
theorem dir_check (s t1 t2 t3 t4 : Str) (h : 47 ≤ s.length) : checkR (dirR s t1 t2 t3 t4) = checkR (dirF s t1 t2 t3 t4) ∧ (checkR (dirF s t1 t2 t3 t4) = 0 → dirR s t1 t2 t3 t4 = dirF s t1 t2 t3 t4) := by
  have q1 := num_small (win s 0 2) (by rw [win_len (by omega)]; omega)
  have q2 := num_small (win s 2 4) (by rw [win_len (by omega)]; omega)
  have q3 := num_small (win s 6 1) (by rw [win_len (by omega)]; omega)
  have q4 := num_small (win s 7 4) (by rw [win_len (by omega)]; omega)
  have q6 := num_small (win s 19 4) (by rw [win_len (by omega)]; omega)
  have bad : ∀ x : api_Dir, okNums x = false → checkR x = 5 := fun x hx => by unfold checkR; rw [hx]; rfl
  have i1 : okIn (-2) 1099511627776 = false := rfl
  have i2 : okIn 9223372036854775807 1099511627776 = false := rfl
  have i3 : okIn (-2) 9007199254740991 = false := rfl
  have i4 : okIn 9223372036854775807 9007199254740991 = false := rfl
  have fin : okNums (dirR s t1 t2 t3 t4) = false → okNums (dirF s t1 t2 t3 t4) = false → checkR (dirR s t1 t2 t3 t4) = checkR (dirF s t1 t2 t3 t4) ∧ (checkR (dirF s t1 t2 t3 t4) = 0 → dirR s t1 t2 t3 t4 = dirF s t1 t2 t3 t4) := fun h1 h2 => by
    rw [bad _ h1, bad _ h2]
    exact ⟨rfl, fun hh => by omega⟩
  rcases num_any (win s 11 8) with q5 | ⟨q5, q5'⟩
  · rcases num_any (win s 23 8) with q7 | ⟨q7, q7'⟩
    · rcases num_any (win s 31 8) with q8 | ⟨q8, q8'⟩
      · rcases num_any (win s 39 8) with q9 | ⟨q9, q9'⟩
        · have e : dirR s t1 t2 t3 t4 = dirF s t1 t2 t3 t4 := by unfold dirR dirF; rw [q1, q2, q3, q4, q5, q6, q7, q8, q9]
          rw [e]
          exact ⟨rfl, fun _ => rfl⟩
        · exact fin (by simp [okNums, dirR, q9, i3]) (by simp [okNums, dirF, q9', i4])
      · exact fin (by simp [okNums, dirR, q8, i1]) (by simp [okNums, dirF, q8', i2])
    · exact fin (by simp [okNums, dirR, q7, i1]) (by simp [okNums, dirF, q7', i2])
  · exact fin (by simp [okNums, dirR, q5, i1]) (by simp [okNums, dirF, q5', i2])
/-- What Get returns. -/
def getR (s : Str) (a : Nat) : api_Dir × Int × Int :=
  if s.length < a + 2 then (zeroDir, 0, 3) else
  if s.length < a + 2 + leV (win s a 2) then (zeroDir, 0, 3) else
  if leV (win s a 2) < 47 then (zeroDir, 0, 2) else
  match take4 (win s (a + 2) (leV (win s a 2))) 47 with
  | none => (zeroDir, 0, 2)
  | some (t1, t2, t3, t4, p) => if p = leV (win s a 2) then
      if checkR (dirF (win s (a + 2) (leV (win s a 2))) t1 t2 t3 t4) = 0 then (dirF (win s (a + 2) (leV (win s a 2))) t1 t2 t3 t4, ((a + 2 + leV (win s a 2) : Nat) : Int), 0) else (zeroDir, 0, checkR (dirF (win s (a + 2) (leV (win s a 2))) t1 t2 t3 t4))
    else (zeroDir, 0, 2)
theorem get_out (s : Str) (x : Int) (h : x < 0 ∨ x > s.length) : stat_Get s x = some (zeroDir, 0, 1) := by
  unfold stat_Get
  have hg : octet_Get s x 2 = some (0, 0, 1) := by
    unfold octet_Get
    refine cond_t ?_ rfl
    simp only [Bool.or_eq_true, decide_eq_true_eq]
    omega
  refine bind_eq hg ?_
  exact cond_t rfl rfl
theorem stat_get_eq (s : Str) (a : Nat) (h : a ≤ s.length) (hs : s.length ≤ 1000000) : stat_Get s (a : Int) = some (getR s a) := by
  unfold stat_Get getR
  have hg := get_eq s a 2 (by omega) (by omega) h (by omega)
  rw [show ((2 : Nat) : Int) = 2 from rfl] at hg
  by_cases h2 : s.length < a + 2
  · rw [if_pos (by omega)] at hg
    rw [if_pos h2]
    refine bind_eq hg ?_
    exact cond_t rfl rfl
  · have hv := leV_two s a (by omega)
    rw [if_neg (by omega), if_neg (by omega)] at hg
    rw [if_neg h2]
    refine bind_eq hg ?_
    refine cond_f rfl ?_
    have ew : w64 ((s.length : Int) - ((a + 2 : Nat) : Int)) = ((s.length - (a + 2) : Nat) : Int) := by rw [w64_eq ⟨by omega, by omega⟩]; omega
    have ex : w64 (((a + 2 : Nat) : Int) + (leV (win s a 2) : Int)) = ((a + 2 + leV (win s a 2) : Nat) : Int) := by rw [w64_eq ⟨by omega, by omega⟩]; omega
    by_cases h3 : s.length < a + 2 + leV (win s a 2)
    · rw [if_pos h3]
      refine cond_t ?_ rfl
      show decide (w64 ((s.length : Int) - ((a + 2 : Nat) : Int)) < (leV (win s a 2) : Int)) = true
      rw [ew]; simp only [decide_eq_true_eq]; omega
    · rw [if_neg h3]
      refine cond_f ?_ ?_
      · show decide (w64 ((s.length : Int) - ((a + 2 : Nat) : Int)) < (leV (win s a 2) : Int)) = false
        rw [ew]; simp only [decide_eq_false_iff_not]; omega
      refine bind_eq (win_sub s (a + 2) (leV (win s a 2)) (by omega) (by omega)) ?_
      have hwl : (win s (a + 2) (leV (win s a 2))).length = leV (win s a 2) := win_len (by omega)
      generalize leV (win s a 2) = n at hwl hv h3 ex ⊢
      generalize win s (a + 2) n = y at hwl ⊢
      by_cases h47 : n < 47
      · rw [if_pos h47]
        obtain ⟨d, at_, hr⟩ := read_short y (by omega)
        refine bind_eq hr ?_
        exact cond_t rfl rfl
      · rw [if_neg h47]
        have hr := read_long y (by omega) (by omega)
        cases h4 : take4 y 47 with
        | none =>
          rw [h4] at hr
          obtain ⟨d, at_, hr⟩ := hr
          refine bind_eq hr ?_
          exact cond_t rfl rfl
        | some x =>
          obtain ⟨t1, t2, t3, t4, p⟩ := x
          rw [h4] at hr
          refine bind_eq hr ?_
          simp only
          by_cases hp : p = n
          · rw [if_pos hp]
            refine cond_f (by simp [hp]) ?_
            have hle := take4_le h4
            have hB : BIG = 18446744073709551616 := rfl
            refine bind_eq (check_eq _ (dirR_ok y t1 t2 t3 t4 (by omega) (by omega) (by omega) (by omega)) (by show t1.length ≤ _; omega)) ?_
            have hd := dir_check y t1 t2 t3 t4 (by omega)
            rw [hd.1]
            by_cases hc : checkR (dirF y t1 t2 t3 t4) = 0
            · rw [if_pos hc]
              refine cond_f (by simp [hc]) ?_
              show some (dirR y t1 t2 t3 t4, w64 (((a + 2 : Nat) : Int) + (n : Int)), (0 : Int)) = _
              rw [hd.2 hc, ex]
            · rw [if_neg hc]
              exact cond_t (by simp [hc]) rfl
          · rw [if_neg hp]
            refine cond_t ?_ rfl
            simp only [Bool.or_eq_true, bne_iff_ne]
            right
            intro hh
            apply hp
            omega
theorem all255_leB (w : Nat) : all255 (leB (-1) w) = true := by
  unfold all255 leB leL bytesS
  rw [List.all_eq_true]
  intro x hx
  simp only [List.mem_map, List.mem_range] at hx
  obtain ⟨n, ⟨i, _, rfl⟩, rfl⟩ := hx
  rw [byteAt_neg]
  rfl
theorem all255_val : ∀ (s : Str), all255 s = true → leV s = 2 ^ (8 * s.length) - 1
  | [], _ => rfl
  | b :: r, h => by
    unfold all255 at h
    simp only [List.all_cons, Bool.and_eq_true, beq_iff_eq] at h
    have ih := all255_val r h.2
    obtain ⟨h1, _⟩ := h
    subst h1
    simp only [leV, ih, List.length_cons]
    rw [show 8 * (r.length + 1) = 8 * r.length + 8 by omega, Nat.pow_add]
    have := Nat.two_pow_pos (8 * r.length)
    rw [show (255 : UInt8).toNat = 255 from rfl]
    omega
theorem numF_leB (n m : Int) (w : Nat) (h8 : w ≤ 8) (h1 : 1 ≤ w) (hok : okIn n m = true) (hm : m < 9223372036854775807) (hmw : w < 8 → m < 2 ^ (8 * w) - 1) : numF (leB n w) = n := by
  unfold okIn at hok
  simp only [Bool.or_eq_true, Bool.and_eq_true, beq_iff_eq, decide_eq_true_eq] at hok
  unfold numF
  rcases hok with rfl | ⟨h0, hle⟩
  · rw [if_pos (all255_leB w)]
  · obtain ⟨k, rfl⟩ : ∃ k : Nat, n = (k : Int) := ⟨n.toNat, by omega⟩
    have hp : (2 : Nat) ^ (8 * w) ≤ 2 ^ 64 := Nat.pow_le_pow_right (by omega) (by omega)
    have hlt : k + 1 < 2 ^ (8 * w) := by
      by_cases hw : w < 8
      · have := hmw hw
        have hc : ((2 : Int) ^ (8 * w)) = ((2 ^ (8 * w) : Nat) : Int) := by simp
        rw [hc] at this
        omega
      · have : w = 8 := by omega
        subst this
        omega
    have hv := leV_leL w k (by omega)
    rw [if_neg, hv, if_neg (by omega)]
    intro ha
    have := all255_val _ ha
    rw [hv, leB_len] at this
    omega
theorem win_mid (a b c : Str) : win (a ++ b ++ c) a.length b.length = b := by
  simp [win]
theorem win_at (s a b c : Str) (k n : Nat) (hs : s = a ++ b ++ c) (hk : a.length = k) (hn : b.length = n) : win s k n = b := by
  subst hs; subst hk; subst hn; exact win_mid a b c
theorem takeT_text (s a t c : Str) (k : Nat) (hs : s = a ++ textB t ++ c) (hk : a.length = k) (ht : t.length < 65536) : takeT s k = some (t, k + 2 + t.length) := by
  have hl : s.length = k + 2 + t.length + c.length := by rw [hs]; simp [textB_len]; omega
  have h1 : win s k 2 = leB (t.length : Int) 2 := win_at s a (leB (t.length : Int) 2) (t ++ c) k 2 (by rw [hs]; simp [textB]) hk (leB_len _ _)
  have h2 : leV (win s k 2) = t.length := by rw [h1]; exact leV_leL 2 t.length (by omega)
  have h3 : win s (k + 2) t.length = t := win_at s (a ++ leB (t.length : Int) 2) t c (k + 2) t.length (by rw [hs]; simp [textB]) (by simp [leB_len, hk]) rfl
  unfold takeT
  rw [h2, h3, if_neg (by omega), if_neg (by omega)]
theorem take4_body (x : api_Dir) (hl : x.Name_.length ≤ 64 ∧ x.Uid_.length ≤ 64 ∧ x.Gid_.length ≤ 64 ∧ x.Muid_.length ≤ 64) : take4 (bodyB x) 47 = some (x.Name_, x.Uid_, x.Gid_, x.Muid_, (bodyB x).length) := by
  have h1 := takeT_text (bodyB x) (numsB x) x.Name_ (textB x.Uid_ ++ textB x.Gid_ ++ textB x.Muid_) 47 (by simp [bodyB]) (numsB_len x) (by omega)
  have h2 := takeT_text (bodyB x) (numsB x ++ textB x.Name_) x.Uid_ (textB x.Gid_ ++ textB x.Muid_) (47 + 2 + x.Name_.length) (by simp [bodyB]) (by simp [numsB_len, textB_len]; omega) (by omega)
  have h3 := takeT_text (bodyB x) (numsB x ++ textB x.Name_ ++ textB x.Uid_) x.Gid_ (textB x.Muid_) (47 + 2 + x.Name_.length + 2 + x.Uid_.length) (by simp [bodyB]) (by simp [numsB_len, textB_len]; omega) (by omega)
  have h4 := takeT_text (bodyB x) (numsB x ++ textB x.Name_ ++ textB x.Uid_ ++ textB x.Gid_) x.Muid_ [] (47 + 2 + x.Name_.length + 2 + x.Uid_.length + 2 + x.Gid_.length) (by simp [bodyB]) (by simp [numsB_len, textB_len]; omega) (by omega)
  unfold take4
  rw [h1]
  simp only
  rw [h2]
  simp only
  rw [h3]
  simp only
  rw [h4]
  simp only [Option.some.injEq, Prod.mk.injEq, true_and]
  rw [bodyB_len]
  omega
theorem dirF_body (x : api_Dir) (h : okNums x = true) (hx : x.ok) : dirF (bodyB x) x.Name_ x.Uid_ x.Gid_ x.Muid_ = x := by
  have b1 := bits_in x.Qid_.Type_ 232 (by omega) hx.2.2.1.1.2
  have b2 := bits_in x.Mode_ 3892314623 (by omega) hx.2.2.2.1.2
  simp only [Int.cast_ofNat_Int] at b1 b2
  unfold okNums at h
  simp only [Bool.and_eq_true] at h
  obtain ⟨⟨⟨⟨⟨⟨⟨⟨o0, o1⟩, o2⟩, o3⟩, o4⟩, o5⟩, o6⟩, o7⟩, o8⟩ := h
  have g0 := numF_leB _ _ 2 (by omega) (by omega) o0 (by omega) (fun _ => by show (65534 : Int) < 2 ^ 16 - 1; omega)
  have g1 := numF_leB _ _ 4 (by omega) (by omega) o1 (by omega) (fun _ => by show (4294967294 : Int) < 2 ^ 32 - 1; omega)
  have g2 := numF_leB _ _ 1 (by omega) (by omega) (b1 o2) (by omega) (fun _ => by show (232 : Int) < 2 ^ 8 - 1; omega)
  have g3 := numF_leB _ _ 4 (by omega) (by omega) o3 (by omega) (fun _ => by show (2147483647 : Int) < 2 ^ 32 - 1; omega)
  have g4 := numF_leB _ _ 8 (by omega) (by omega) o4 (by omega) (fun hh => by omega)
  have g5 := numF_leB _ _ 4 (by omega) (by omega) (b2 o5) (by omega) (fun _ => by show (3892314623 : Int) < 2 ^ 32 - 1; omega)
  have g6 := numF_leB _ _ 8 (by omega) (by omega) o6 (by omega) (fun hh => by omega)
  have g7 := numF_leB _ _ 8 (by omega) (by omega) o7 (by omega) (fun hh => by omega)
  have g8 := numF_leB _ _ 8 (by omega) (by omega) o8 (by omega) (fun hh => by omega)
  let T := textB x.Name_ ++ textB x.Uid_ ++ textB x.Gid_ ++ textB x.Muid_
  have w0 : win (bodyB x) 0 2 = leB x.Type_ 2 := win_at _ [] _ (leB x.Dev_ 4 ++ leB x.Qid_.Type_ 1 ++ leB x.Qid_.Vers_ 4 ++ leB x.Qid_.Path_ 8 ++ leB x.Mode_ 4 ++ leB x.Atime_ 8 ++ leB x.Mtime_ 8 ++ leB x.Length_ 8 ++ T) 0 2 (by simp [bodyB, numsB, T]) rfl (leB_len _ _)
  have w1 : win (bodyB x) 2 4 = leB x.Dev_ 4 := win_at _ (leB x.Type_ 2) _ (leB x.Qid_.Type_ 1 ++ leB x.Qid_.Vers_ 4 ++ leB x.Qid_.Path_ 8 ++ leB x.Mode_ 4 ++ leB x.Atime_ 8 ++ leB x.Mtime_ 8 ++ leB x.Length_ 8 ++ T) 2 4 (by simp [bodyB, numsB, T]) (by simp [leB_len]) (leB_len _ _)
  have w2 : win (bodyB x) 6 1 = leB x.Qid_.Type_ 1 := win_at _ (leB x.Type_ 2 ++ leB x.Dev_ 4) _ (leB x.Qid_.Vers_ 4 ++ leB x.Qid_.Path_ 8 ++ leB x.Mode_ 4 ++ leB x.Atime_ 8 ++ leB x.Mtime_ 8 ++ leB x.Length_ 8 ++ T) 6 1 (by simp [bodyB, numsB, T]) (by simp [leB_len]) (leB_len _ _)
  have w3 : win (bodyB x) 7 4 = leB x.Qid_.Vers_ 4 := win_at _ (leB x.Type_ 2 ++ leB x.Dev_ 4 ++ leB x.Qid_.Type_ 1) _ (leB x.Qid_.Path_ 8 ++ leB x.Mode_ 4 ++ leB x.Atime_ 8 ++ leB x.Mtime_ 8 ++ leB x.Length_ 8 ++ T) 7 4 (by simp [bodyB, numsB, T]) (by simp [leB_len]) (leB_len _ _)
  have w4 : win (bodyB x) 11 8 = leB x.Qid_.Path_ 8 := win_at _ (leB x.Type_ 2 ++ leB x.Dev_ 4 ++ leB x.Qid_.Type_ 1 ++ leB x.Qid_.Vers_ 4) _ (leB x.Mode_ 4 ++ leB x.Atime_ 8 ++ leB x.Mtime_ 8 ++ leB x.Length_ 8 ++ T) 11 8 (by simp [bodyB, numsB, T]) (by simp [leB_len]) (leB_len _ _)
  have w5 : win (bodyB x) 19 4 = leB x.Mode_ 4 := win_at _ (leB x.Type_ 2 ++ leB x.Dev_ 4 ++ leB x.Qid_.Type_ 1 ++ leB x.Qid_.Vers_ 4 ++ leB x.Qid_.Path_ 8) _ (leB x.Atime_ 8 ++ leB x.Mtime_ 8 ++ leB x.Length_ 8 ++ T) 19 4 (by simp [bodyB, numsB, T]) (by simp [leB_len]) (leB_len _ _)
  have w6 : win (bodyB x) 23 8 = leB x.Atime_ 8 := win_at _ (leB x.Type_ 2 ++ leB x.Dev_ 4 ++ leB x.Qid_.Type_ 1 ++ leB x.Qid_.Vers_ 4 ++ leB x.Qid_.Path_ 8 ++ leB x.Mode_ 4) _ (leB x.Mtime_ 8 ++ leB x.Length_ 8 ++ T) 23 8 (by simp [bodyB, numsB, T]) (by simp [leB_len]) (leB_len _ _)
  have w7 : win (bodyB x) 31 8 = leB x.Mtime_ 8 := win_at _ (leB x.Type_ 2 ++ leB x.Dev_ 4 ++ leB x.Qid_.Type_ 1 ++ leB x.Qid_.Vers_ 4 ++ leB x.Qid_.Path_ 8 ++ leB x.Mode_ 4 ++ leB x.Atime_ 8) _ (leB x.Length_ 8 ++ T) 31 8 (by simp [bodyB, numsB, T]) (by simp [leB_len]) (leB_len _ _)
  have w8 : win (bodyB x) 39 8 = leB x.Length_ 8 := win_at _ (leB x.Type_ 2 ++ leB x.Dev_ 4 ++ leB x.Qid_.Type_ 1 ++ leB x.Qid_.Vers_ 4 ++ leB x.Qid_.Path_ 8 ++ leB x.Mode_ 4 ++ leB x.Atime_ 8 ++ leB x.Mtime_ 8) _ T 39 8 (by simp [bodyB, numsB, T]) (by simp [leB_len]) (leB_len _ _)
  unfold dirF
  rw [w0, w1, w2, w3, w4, w5, w6, w7, w8, g0, g1, g2, g3, g4, g5, g6, g7, g8]
/-- What Put writes is read back, whatever stands before and after it. -/
theorem getR_put (p q : Str) (x : api_Dir) (hx : x.ok) (hc : checkR x = 0) : getR (p ++ putB x ++ q) p.length = (x, ((p.length + (putB x).length : Nat) : Int), 0) := by
  obtain ⟨hN, hT⟩ := checkR_zero x hc
  have htl := texts_len x hT
  have hbl := bodyB_len x
  have hpl := putB_len x
  have h1 : win (p ++ putB x ++ q) p.length 2 = leB ((bodyB x).length : Int) 2 := win_at _ p _ (bodyB x ++ q) _ _ (by simp [putB]) rfl (leB_len _ _)
  have h2 : leV (win (p ++ putB x ++ q) p.length 2) = (bodyB x).length := by rw [h1]; exact leV_leL 2 _ (by omega)
  have h3 : win (p ++ putB x ++ q) (p.length + 2) (bodyB x).length = bodyB x := win_at _ (p ++ leB ((bodyB x).length : Int) 2) _ q _ _ (by simp [putB]) (by simp [leB_len]) rfl
  have hl : (p ++ putB x ++ q).length = p.length + (putB x).length + q.length := by simp; omega
  unfold getR
  rw [h2, h3, if_neg (by omega), if_neg (by omega), if_neg (by omega), take4_body x htl]
  simp only
  rw [if_pos trivial, dirF_body x hN hx, if_pos hc, show p.length + 2 + (bodyB x).length = p.length + (putB x).length by omega]
theorem win_split (s : Str) (a n m : Nat) : win s a (n + m) = win s a n ++ win s (a + n) m := by
  unfold win
  rw [← List.drop_drop, List.take_add]
theorem win_join (s : Str) (a n m b k : Nat) (h : b = a + n) (hk : k = n + m) : win s a n ++ win s b m = win s a k := by
  subst h; subst hk; exact (win_split s a n m).symm
theorem text_takeT {s t : Str} {a p : Nat} (h : takeT s a = some (t, p)) : textB t = win s a (p - a) ∧ p = a + 2 + t.length ∧ t.length < 65536 ∧ p ≤ s.length := by
  have h0 := h
  unfold takeT at h
  split at h
  · cases h
  · split at h
    · cases h
    · rename_i h1 h2
      simp only [Option.some.injEq, Prod.mk.injEq] at h
      obtain ⟨rfl, rfl⟩ := h
      have hl : (win s (a + 2) (leV (win s a 2))).length = leV (win s a 2) := win_len (by omega)
      have hv := leV_two s a (by omega)
      refine ⟨?_, by omega, by omega, by omega⟩
      rw [show a + 2 + leV (win s a 2) - a = 2 + leV (win s a 2) by omega, win_split]
      unfold textB
      rw [hl]
      have := leB_leV (win s a 2)
      rw [win_len (by omega)] at this
      rw [this]
/-- What a number was read from, where it is none that is too large. -/
theorem leB_numR (y : Str) (w : Nat) (hw : y.length = w) (h : numR y ≠ -2) : leB (numR y) w = y := by
  unfold numR at *
  split
  · rename_i h255
    subst hw
    have key : ∀ (y : Str), all255 y = true → y = List.replicate y.length 255 := by
      intro y
      induction y with
      | nil => intro _; rfl
      | cons b y ih =>
        intro h
        unfold all255 at h
        simp only [List.all_cons, Bool.and_eq_true, beq_iff_eq] at h
        obtain ⟨rfl, h2⟩ := h
        rw [List.length_cons, List.replicate_succ, ← ih h2]
    rw [key y h255, List.length_replicate]
    unfold leB leL bytesS
    apply List.ext_getElem
    · simp
    · intro i h1 h2
      simp only [List.getElem_map, List.getElem_range, List.getElem_replicate]
      rw [byteAt_neg]
      rfl
  · rename_i h255
    rw [if_neg h255] at h
    split at h
    · exact absurd rfl h
    · rename_i hle
      rw [if_neg hle]
      subst hw
      exact leB_leV y
/-- The bytes that a description was read from are its bytes. -/
theorem putB_getR (y : Str) (d : api_Dir) (h : getR y 0 = (d, (y.length : Int), 0)) : checkR d = 0 ∧ putB d = y := by
  unfold getR at h
  split at h
  · simp at h
  · split at h
    · simp at h
    · split at h
      · simp at h
      · rename_i h1 h2 h3
        split at h
        · simp at h
        · rename_i t1 t2 t3 t4 p ht
          split at h
          · rename_i hp
            split at h
            · rename_i hc
              simp only [Prod.mk.injEq, and_true] at h
              obtain ⟨rfl, hend⟩ := h
              refine ⟨hc, ?_⟩
              have hend' : 2 + leV (win y 0 2) = y.length := by omega
              have hv : (win y (0 + 2) (leV (win y 0 2))).length = leV (win y 0 2) := win_len (by omega)
              generalize hz : win y (0 + 2) (leV (win y 0 2)) = z at *
              have hdR := (dir_check z t1 t2 t3 t4 (by omega)).2 hc
              rw [← hdR]
              have hbody : bodyB (dirR z t1 t2 t3 t4) = z := by
                unfold take4 at ht
                have hN := (checkR_zero _ hc).1
                rw [← hdR] at hN
                have hne : ∀ (x m : Int), okIn x m = true → x ≠ -2 := fun x m hx he => by subst he; simp [okIn] at hx
                have hneB : ∀ (x m : Int), okBits x m = true → x ≠ -2 := fun x m hx he => by subst he; simp [okBits] at hx
                simp only [okNums, Bool.and_eq_true] at hN
                obtain ⟨⟨⟨⟨⟨⟨⟨⟨n0, n1⟩, n2⟩, n3⟩, n4⟩, n5⟩, n6⟩, n7⟩, n8⟩ := hN
                have w : ∀ a b, a + b ≤ z.length → (win z a b).length = b := fun a b h => win_len h
                have e0 := leB_numR (win z 0 2) 2 (w 0 2 (by omega)) (hne _ _ n0)
                have e1 := leB_numR (win z 2 4) 4 (w 2 4 (by omega)) (hne _ _ n1)
                have e2 := leB_numR (win z 6 1) 1 (w 6 1 (by omega)) (hneB _ _ n2)
                have e3 := leB_numR (win z 7 4) 4 (w 7 4 (by omega)) (hne _ _ n3)
                have e4 := leB_numR (win z 11 8) 8 (w 11 8 (by omega)) (hne _ _ n4)
                have e5 := leB_numR (win z 19 4) 4 (w 19 4 (by omega)) (hneB _ _ n5)
                have e6 := leB_numR (win z 23 8) 8 (w 23 8 (by omega)) (hne _ _ n6)
                have e7 := leB_numR (win z 31 8) 8 (w 31 8 (by omega)) (hne _ _ n7)
                have e8 := leB_numR (win z 39 8) 8 (w 39 8 (by omega)) (hne _ _ n8)
                unfold bodyB numsB
                simp only [dirR]
                rw [e0, e1, e2, e3, e4, e5, e6, e7, e8]
                rw [win_join z 0 2 4 2 6 rfl rfl, win_join z 0 6 1 6 7 rfl rfl, win_join z 0 7 4 7 11 rfl rfl, win_join z 0 11 8 11 19 rfl rfl, win_join z 0 19 4 19 23 rfl rfl, win_join z 0 23 8 23 31 rfl rfl, win_join z 0 31 8 31 39 rfl rfl, win_join z 0 39 8 39 47 rfl rfl]
                cases g1 : takeT z 47 with
                | none => rw [g1] at ht; cases ht
                | some q1 =>
                  obtain ⟨u1, p1⟩ := q1
                  rw [g1] at ht
                  simp only at ht
                  cases g2 : takeT z p1 with
                  | none => rw [g2] at ht; cases ht
                  | some q2 =>
                    obtain ⟨u2, p2⟩ := q2
                    rw [g2] at ht
                    simp only at ht
                    cases g3 : takeT z p2 with
                    | none => rw [g3] at ht; cases ht
                    | some q3 =>
                      obtain ⟨u3, p3⟩ := q3
                      rw [g3] at ht
                      simp only at ht
                      cases g4 : takeT z p3 with
                      | none => rw [g4] at ht; cases ht
                      | some q4 =>
                        obtain ⟨u4, p4⟩ := q4
                        rw [g4] at ht
                        simp only [Option.some.injEq, Prod.mk.injEq] at ht
                        obtain ⟨rfl, rfl, rfl, rfl, rfl⟩ := ht
                        obtain ⟨a1, b1, c1, d1⟩ := text_takeT g1
                        obtain ⟨a2, b2, c2, d2⟩ := text_takeT g2
                        obtain ⟨a3, b3, c3, d3⟩ := text_takeT g3
                        obtain ⟨a4, b4, c4, d4⟩ := text_takeT g4
                        rw [a1, a2, a3, a4, win_join z 0 47 (p1 - 47) 47 p1 rfl (by omega), win_join z 0 p1 (p2 - p1) p1 p2 (by omega) (by omega), win_join z 0 p2 (p3 - p2) p2 p3 (by omega) (by omega), win_join z 0 p3 (p4 - p3) p3 p4 (by omega) (by omega)]
                        have : p4 = z.length := by omega
                        rw [this]
                        simp [win]
              unfold putB
              rw [hbody, hv]
              have := leB_leV (win y 0 2)
              rw [win_len (by omega)] at this
              rw [this, ← hz]
              have := win_split y 0 2 (leV (win y 0 2))
              rw [← this, hend']
              simp [win]
            · rename_i hc
              simp only [Prod.mk.injEq] at h
              exact absurd h.2.2 hc
          · simp at h
end Go.Proofs.YtboplmpnjepdnaaGreat

/-
  Plain laws: what the reader of wire reads, and what it was written from. No program in sight.
-/
namespace Go.Proofs.YtboplmpnjepdnaaGreat
open Go.Rt Go.RowKit

abbrev MAXI : Nat := 9223372036854775807
/-! ### Encodings -/
def encN (n : Int) (w : Nat) : Option Str := if fitsW n w then some (leB n w) else none
def encT (s : Str) : Option Str := if s.length ≤ 65535 then some (textB s) else none
def encQ (q : api_Qid) : Option Str := if fitsW q.Type_ 1 && fitsW q.Vers_ 4 && fitsW q.Path_ 8 then some (leB q.Type_ 1 ++ leB q.Vers_ 4 ++ leB q.Path_ 8) else none
def encs {α : Type} (f : α → Option Str) : List α → Option Str
  | [] => some []
  | x :: l => match f x, encs f l with
    | some a, some b => some (a ++ b)
    | _, _ => none
def encL {α : Type} (f : α → Option Str) (l : List α) : Option Str := if l.length ≤ 65535 then (encs f l).map (leB (l.length : Int) 2 ++ ·) else none
def encD (s : Str) (w : Nat) : Option Str := if fitsW (s.length : Int) w then some (leB (s.length : Int) w ++ s) else none
def encS (d : api_Dir) : Option Str := if checkR d = 0 then some (leB ((putB d).length : Int) 2 ++ putB d) else none
/-! ### Numbers -/
def decN (y : Str) (a w : Nat) : Option (Nat × Nat) := if y.length < a + w then none else if leV (win y a w) > MAXI then none else some (leV (win y a w), a + w)
theorem decN_enc {y : Str} {a w n p : Nat} (h : decN y a w = some (n, p)) (_ : w ≤ 8) : p = a + w ∧ p ≤ y.length ∧ n ≤ MAXI ∧ encN (n : Int) w = some (win y a w) := by
  unfold decN at h
  split at h
  · cases h
  · split at h
    · cases h
    · rename_i h1 h2
      simp only [Option.some.injEq, Prod.mk.injEq] at h
      obtain ⟨rfl, rfl⟩ := h
      refine ⟨rfl, by omega, by omega, ?_⟩
      have hl : (win y a w).length = w := win_len (by omega)
      have hv := leV_lt (win y a w)
      rw [hl] at hv
      have hf : fitsW ((leV (win y a w) : Nat) : Int) w = true := by
        unfold fitsW
        rw [Bool.and_eq_true, Bool.or_eq_true]
        refine ⟨by simp, .inr ?_⟩
        rw [decide_eq_true_eq]
        exact_mod_cast hv
      unfold encN
      rw [if_pos hf]
      have := leB_leV (win y a w)
      rw [hl] at this
      rw [this]
theorem enc_decN {y t : Str} {n : Int} {a w : Nat} (h8 : w ≤ 8) (he : encN n w = some t) (hn : n ≤ 9223372036854775807) (ht : win y a t.length = t) (hy : a + t.length ≤ y.length) : t.length = w ∧ ∃ k : Nat, n = (k : Int) ∧ decN y a w = some (k, a + w) := by
  unfold encN at he
  split at he
  · rename_i hf
    obtain rfl := Option.some.inj he
    rw [leB_len] at ht hy ⊢
    refine ⟨rfl, ?_⟩
    unfold fitsW at hf
    simp only [Bool.and_eq_true, Bool.or_eq_true, decide_eq_true_eq] at hf
    obtain ⟨k, rfl⟩ : ∃ k : Nat, n = (k : Int) := ⟨n.toNat, by omega⟩
    have hk : k < 2 ^ (8 * w) := by
      rcases hf.2 with h | h
      · have : w = 8 := by omega
        subst this
        show k < 18446744073709551616
        omega
      · exact_mod_cast h
    refine ⟨k, rfl, ?_⟩
    unfold decN
    rw [if_neg (by omega), ht, leV_leL w k hk, if_neg (by show ¬ k > 9223372036854775807; omega)]
  · cases he
theorem rnum (y : Str) (a w : Nat) (h1 : 1 ≤ w) (h8 : w ≤ 8) (h : a ≤ y.length) (hs : y.length ≤ 1000000) :
    wire_reader_number ⟨y, (a : Int), true⟩ (w : Int) = some (match decN y a w with | none => (0, ⟨y, (a : Int), false⟩) | some (n, p) => ((n : Int), ⟨y, (p : Int), true⟩)) := by
  unfold wire_reader_number decN
  refine cond_f rfl ?_
  refine bind_eq (get_eq y a w h1 h8 h (by omega)) ?_
  by_cases hlt : y.length < a + w
  · rw [if_pos (by omega), if_pos hlt]
    exact cond_t rfl rfl
  · rw [if_neg (by omega), if_neg hlt]
    by_cases hv : leV (win y a w) > 9223372036854775807
    · rw [if_pos hv, if_pos hv]
      exact cond_t rfl rfl
    · rw [if_neg hv, if_neg hv]
      exact cond_f rfl rfl
theorem rnum_no (y : Str) (a w : Int) : wire_reader_number ⟨y, a, false⟩ w = some (0, ⟨y, a, false⟩) := by
  unfold wire_reader_number
  exact cond_t rfl rfl
/-! ### Texts -/
theorem rtext (y : Str) (a : Nat) (h : a ≤ y.length) (hs : y.length ≤ 1000000) :
    wire_reader_text ⟨y, (a : Int), true⟩ = some (match takeT y a with | none => ([], ⟨y, (a : Int), false⟩) | some (t, p) => (t, ⟨y, (p : Int), true⟩)) := by
  unfold wire_reader_text
  refine cond_f rfl ?_
  refine bind_eq (gettext_eq y a h hs) ?_
  cases takeT y a with
  | none => exact cond_t rfl rfl
  | some q => exact cond_f rfl rfl
theorem rtext_no (y : Str) (a : Int) : wire_reader_text ⟨y, a, false⟩ = some ([], ⟨y, a, false⟩) := by
  unfold wire_reader_text
  exact cond_t rfl rfl
theorem takeT_enc {y t : Str} {a p : Nat} (h : takeT y a = some (t, p)) : p ≤ y.length ∧ a ≤ p ∧ encT t = some (win y a (p - a)) := by
  obtain ⟨h1, h2, h3, h4⟩ := text_takeT h
  refine ⟨h4, by omega, ?_⟩
  unfold encT
  rw [if_pos (by omega), h1]
theorem enc_takeT {y s t : Str} {a : Nat} (he : encT s = some t) (ht : win y a t.length = t) (hy : a + t.length ≤ y.length) : takeT y a = some (s, a + t.length) := by
  unfold encT at he
  split at he
  · rename_i hl
    obtain rfl := Option.some.inj he
    have h0 : y = y.take a ++ textB s ++ y.drop (a + (textB s).length) := by
      have h1 := List.take_append_drop a y
      have h2 := List.take_append_drop (textB s).length (y.drop a)
      unfold win at ht
      rw [ht, List.drop_drop] at h2
      rw [List.append_assoc, h2, h1]
    have := takeT_text y (y.take a) s (y.drop (a + (textB s).length)) a h0 (by rw [List.length_take]; omega) (by omega)
    rw [this, textB_len]
    congr 2
    omega
  · cases he
/-! ### Qids -/
theorem rqid (y : Str) (a : Nat) (h : a ≤ y.length) (hs : y.length ≤ 1000000) : ∃ q r, wire_reader_qid ⟨y, (a : Int), true⟩ = some (q, r) ∧ r.s_ = y ∧ ((r.ok_ = true ∧ ∃ p : Nat, r.at_ = (p : Int) ∧ a ≤ p ∧ p ≤ y.length ∧ encQ q = some (win y a (p - a))) ∨ r.ok_ = false) := by
  unfold wire_reader_qid
  have e1 := rnum y a 1 (by omega) (by omega) h hs
  rw [show ((1 : Nat) : Int) = 1 from rfl] at e1
  cases d1 : decN y a 1 with
  | none =>
    rw [d1] at e1
    exact ⟨_, _, bind_eq e1 (bind_eq (rnum_no _ _ _) (bind_eq (rnum_no _ _ _) rfl)), rfl, .inr rfl⟩
  | some q1 =>
    obtain ⟨n1, p1⟩ := q1
    rw [d1] at e1
    obtain ⟨a1, b1, c1, g1⟩ := decN_enc d1 (by omega)
    have e2 := rnum y p1 4 (by omega) (by omega) b1 hs
    rw [show ((4 : Nat) : Int) = 4 from rfl] at e2
    cases d2 : decN y p1 4 with
    | none =>
      rw [d2] at e2
      exact ⟨_, _, bind_eq e1 (bind_eq e2 (bind_eq (rnum_no _ _ _) rfl)), rfl, .inr rfl⟩
    | some q2 =>
      obtain ⟨n2, p2⟩ := q2
      rw [d2] at e2
      obtain ⟨a2, b2, c2, g2⟩ := decN_enc d2 (by omega)
      have e3 := rnum y p2 8 (by omega) (by omega) b2 hs
      rw [show ((8 : Nat) : Int) = 8 from rfl] at e3
      cases d3 : decN y p2 8 with
      | none =>
        rw [d3] at e3
        exact ⟨_, _, bind_eq e1 (bind_eq e2 (bind_eq e3 rfl)), rfl, .inr rfl⟩
      | some q3 =>
        obtain ⟨n3, p3⟩ := q3
        rw [d3] at e3
        obtain ⟨a3, b3, c3, g3⟩ := decN_enc d3 (by omega)
        refine ⟨_, _, bind_eq e1 (bind_eq e2 (bind_eq e3 rfl)), rfl, .inl ⟨rfl, p3, rfl, by omega, b3, ?_⟩⟩
        unfold encN at g1 g2 g3
        split at g1
        · split at g2
          · split at g3
            · rename_i f1 f2 f3
              have g1 := Option.some.inj g1
              have g2 := Option.some.inj g2
              have g3 := Option.some.inj g3
              unfold encQ
              show (if fitsW (n1 : Int) 1 && fitsW (n2 : Int) 4 && fitsW (n3 : Int) 8 then some (leB (n1 : Int) 1 ++ leB (n2 : Int) 4 ++ leB (n3 : Int) 8) else none) = _
              rw [f1, f2, f3, g1, g2, g3, win_join y a 1 4 p1 5 a1 rfl, win_join y a 5 8 p2 (p3 - a) (by omega) (by omega)]
              rfl
            · cases g3
          · cases g2
        · cases g1
theorem rqid_no (y : Str) (a : Int) : ∃ q, wire_reader_qid ⟨y, a, false⟩ = some (q, ⟨y, a, false⟩) := by
  unfold wire_reader_qid
  exact ⟨_, bind_eq (rnum_no _ _ _) (bind_eq (rnum_no _ _ _) (bind_eq (rnum_no _ _ _) rfl))⟩
theorem win_in {y t u v : Str} {a : Nat} (h : win y a (t ++ u).length = t ++ u) (_ : (t ++ u).length = v.length) (_ : v = t ++ u) : win y a t.length = t ∧ win y (a + t.length) u.length = u := by
  rw [List.length_append, win_split] at h
  have h1 : (win y a t.length).length = t.length := by
    have h3 := congrArg List.length h
    rw [List.length_append, List.length_append] at h3
    have h4 : (win y a t.length).length ≤ t.length := by unfold win; rw [List.length_take]; omega
    have h5 : (win y (a + t.length) u.length).length ≤ u.length := by unfold win; rw [List.length_take]; omega
    omega
  exact List.append_inj h h1
end Go.Proofs.YtboplmpnjepdnaaGreat

/-
  Plain laws: lists, data, descriptions and errors, read from bytes. No program in sight.
-/
namespace Go.Proofs.YtboplmpnjepdnaaGreat
open Go.Rt Go.RowKit

theorem encs_app {α : Type} {f : α → Option Str} : ∀ {l m : List α} {a b : Str}, encs f l = some a → encs f m = some b → encs f (l ++ m) = some (a ++ b)
  | [], m, a, b, h1, h2 => by
    obtain rfl := Option.some.inj h1
    exact h2
  | x :: l, m, a, b, h1, h2 => by
    simp only [encs] at h1
    split at h1
    · rename_i u v hu hv
      obtain rfl := Option.some.inj h1
      have := encs_app hv h2
      simp only [List.cons_append, encs, hu, this, List.append_assoc]
    · cases h1
theorem encs_one {α : Type} {f : α → Option Str} {x : α} {a : Str} (h : f x = some a) : encs f [x] = some a := by
  simp [encs, h]
/-- What is so of a value read at a: the reader stands behind it, and it is written as these bytes; or the reader has failed. -/
def Rd {α : Type} (y : Str) (a : Nat) (enc : α → Option Str) (x : α) (r : wire_reader) : Prop := r.s_ = y ∧ ((r.ok_ = true ∧ ∃ p : Nat, r.at_ = (p : Int) ∧ a ≤ p ∧ p ≤ y.length ∧ enc x = some (win y a (p - a))) ∨ r.ok_ = false)
theorem reader_eq {r : wire_reader} {y : Str} {p : Nat} (h1 : r.s_ = y) (h2 : r.at_ = (p : Int)) (h3 : r.ok_ = true) : r = ⟨y, (p : Int), true⟩ := by
  cases r; simp_all
/-! ### Lists -/
theorem names_loop (y : Str) (hs : y.length ≤ 1000000) (a : Nat) : ∀ (k fuel p : Nat) (acc : List Str), k < fuel → p ≤ y.length → a ≤ p → acc.length + k ≤ 65535 → encs encT acc = some (win y a (p - a)) →
    ∃ l r, loopF wire_reader_names_L1 fuel ((k : Int), ⟨y, (p : Int), true⟩, acc) = some (l, r) ∧ r.s_ = y ∧ ((r.ok_ = true ∧ l.length = acc.length + k ∧ ∃ q : Nat, r.at_ = (q : Int) ∧ a ≤ q ∧ q ≤ y.length ∧ encs encT l = some (win y a (q - a))) ∨ r.ok_ = false)
  | 0, fuel + 1, p, acc, _, hp, ha, _, he => by
    refine ⟨acc, ⟨y, (p : Int), true⟩, loop_done ?_, rfl, .inl ⟨rfl, rfl, p, rfl, ha, hp, he⟩⟩
    unfold wire_reader_names_L1
    exact cond_f rfl rfl
  | k + 1, fuel + 1, p, acc, hk, hp, ha, hl, he => by
    have e1 := rtext y p hp hs
    have hroom : ∀ t : Str, room 16 acc [t] = some (acc ++ [t]) := fun t => room_eq (by simp; omega) (by simp; omega)
    have hw : w64 (((k + 1 : Nat) : Int) - 1) = (k : Int) := by rw [w64_eq ⟨by omega, by omega⟩]; omega
    have hc : (decide (((k + 1 : Nat) : Int) > 0) && true) = true := by simp <;> omega
    cases d1 : takeT y p with
    | none =>
      rw [d1] at e1
      cases fuel with
      | zero => omega
      | succ fuel =>
        refine ⟨acc ++ [[]], ⟨y, (p : Int), false⟩, loop_next (s' := ((k : Int), ⟨y, (p : Int), false⟩, acc ++ [[]])) ?_ (loop_done ?_), rfl, .inr rfl⟩
        · unfold wire_reader_names_L1
          refine cond_t hc (bind_eq e1 (bind_eq (hroom _) ?_))
          rw [← hw]
        · unfold wire_reader_names_L1
          exact cond_f (by simp) rfl
    | some q =>
      obtain ⟨t, p1⟩ := q
      rw [d1] at e1
      obtain ⟨h1, h2, h3⟩ := takeT_enc d1
      obtain ⟨l, r, g1, g2, g3⟩ := names_loop y hs a k fuel p1 (acc ++ [t]) (by omega) h1 (by omega) (by simp; omega) (by
        have := encs_app he (encs_one h3)
        rw [win_join y a (p - a) (p1 - p) p (p1 - a) (by omega) (by omega)] at this
        exact this)
      refine ⟨l, r, loop_next ?_ g1, g2, ?_⟩
      · unfold wire_reader_names_L1
        refine cond_t hc (bind_eq e1 (bind_eq (hroom _) ?_))
        rw [← hw]
      · rcases g3 with ⟨g4, g5, g6⟩ | g3
        · exact .inl ⟨g4, by rw [g5]; simp; omega, g6⟩
        · exact .inr g3
theorem rnames (y : Str) (a : Nat) (h : a ≤ y.length) (hs : y.length ≤ 1000000) : ∃ l r, wire_reader_names ⟨y, (a : Int), true⟩ = some (l, r) ∧ Rd y a (encL encT) l r := by
  have hB : BIG = 18446744073709551616 := rfl
  unfold wire_reader_names
  have e1 := rnum y a 2 (by omega) (by omega) h hs
  rw [show ((2 : Nat) : Int) = 2 from rfl] at e1
  cases d1 : decN y a 2 with
  | none =>
    rw [d1] at e1
    refine ⟨[], ⟨y, (a : Int), false⟩, bind_eq e1 (bind_eq (a := ([], ⟨y, (a : Int), false⟩)) ?_ rfl), rfl, .inr rfl⟩
    rw [show BIG = 18446744073709551615 + 1 from rfl]
    refine loop_done ?_
    unfold wire_reader_names_L1
    exact cond_f rfl rfl
  | some q1 =>
    obtain ⟨n1, p1⟩ := q1
    rw [d1] at e1
    obtain ⟨a1, b1, c1, g1⟩ := decN_enc d1 (by omega)
    have hn : n1 ≤ 65535 := by
      unfold decN at d1
      split at d1
      · cases d1
      · split at d1
        · cases d1
        · simp only [Option.some.injEq, Prod.mk.injEq] at d1
          obtain ⟨rfl, _⟩ := d1
          have := leV_two y a (by omega)
          omega
    obtain ⟨l, r, k1, k2, k3⟩ := names_loop y hs p1 n1 BIG p1 [] (by omega) b1 (Nat.le_refl _) (by simpa using hn) (by simp [encs, win])
    refine ⟨l, r, bind_eq e1 (bind_eq k1 rfl), k2, ?_⟩
    rcases k3 with ⟨k4, k5, p2, k6, k7, k8, k9⟩ | k3
    · refine .inl ⟨k4, p2, k6, by omega, k8, ?_⟩
      unfold encL
      have hl : l.length = n1 := by simpa using k5
      rw [if_pos (by omega), k9, hl]
      unfold encN at g1
      split at g1
      · have g1 := Option.some.inj g1
        rw [g1, Option.map_some, win_join y a 2 (p2 - p1) p1 (p2 - a) (by omega) (by omega)]
      · cases g1
    · exact .inr k3
theorem qids_loop (y : Str) (hs : y.length ≤ 1000000) (a : Nat) : ∀ (k fuel p : Nat) (acc : List api_Qid), k < fuel → p ≤ y.length → a ≤ p → acc.length + k ≤ 65535 → encs encQ acc = some (win y a (p - a)) →
    ∃ l r, loopF wire_reader_qids_L1 fuel ((k : Int), ⟨y, (p : Int), true⟩, acc) = some (l, r) ∧ r.s_ = y ∧ ((r.ok_ = true ∧ l.length = acc.length + k ∧ ∃ q : Nat, r.at_ = (q : Int) ∧ a ≤ q ∧ q ≤ y.length ∧ encs encQ l = some (win y a (q - a))) ∨ r.ok_ = false)
  | 0, fuel + 1, p, acc, _, hp, ha, _, he => by
    refine ⟨acc, ⟨y, (p : Int), true⟩, loop_done ?_, rfl, .inl ⟨rfl, rfl, p, rfl, ha, hp, he⟩⟩
    unfold wire_reader_qids_L1
    exact cond_f rfl rfl
  | k + 1, fuel + 1, p, acc, hk, hp, ha, hl, he => by
    obtain ⟨t, r0, e1, hy0, hr0⟩ := rqid y p hp hs
    have hroom : ∀ t : api_Qid, room 24 acc [t] = some (acc ++ [t]) := fun t => room_eq (by simp; omega) (by simp; omega)
    have hw : w64 (((k + 1 : Nat) : Int) - 1) = (k : Int) := by rw [w64_eq ⟨by omega, by omega⟩]; omega
    have hc : (decide (((k + 1 : Nat) : Int) > 0) && true) = true := by simp <;> omega
    rcases hr0 with ⟨hok, p1, hat, h2, h1, h3⟩ | hno
    · obtain rfl := reader_eq hy0 hat hok
      obtain ⟨l, r, g1, g2, g3⟩ := qids_loop y hs a k fuel p1 (acc ++ [t]) (by omega) h1 (by omega) (by simp; omega) (by
        have := encs_app he (encs_one h3)
        rw [win_join y a (p - a) (p1 - p) p (p1 - a) (by omega) (by omega)] at this
        exact this)
      refine ⟨l, r, loop_next ?_ g1, g2, ?_⟩
      · unfold wire_reader_qids_L1
        refine cond_t hc (bind_eq e1 (bind_eq (hroom _) ?_))
        rw [← hw]
      · rcases g3 with ⟨g4, g5, g6⟩ | g3
        · exact .inl ⟨g4, by rw [g5]; simp; omega, g6⟩
        · exact .inr g3
    · cases fuel with
      | zero => omega
      | succ fuel =>
        refine ⟨acc ++ [t], r0, loop_next (s' := ((k : Int), r0, acc ++ [t])) ?_ (loop_done ?_), hy0, .inr hno⟩
        · unfold wire_reader_qids_L1
          refine cond_t hc (bind_eq e1 (bind_eq (hroom _) ?_))
          rw [← hw]
        · unfold wire_reader_qids_L1
          exact cond_f (by simp [hno]) rfl
theorem rqids (y : Str) (a : Nat) (h : a ≤ y.length) (hs : y.length ≤ 1000000) : ∃ l r, wire_reader_qids ⟨y, (a : Int), true⟩ = some (l, r) ∧ Rd y a (encL encQ) l r := by
  have hB : BIG = 18446744073709551616 := rfl
  unfold wire_reader_qids
  have e1 := rnum y a 2 (by omega) (by omega) h hs
  rw [show ((2 : Nat) : Int) = 2 from rfl] at e1
  cases d1 : decN y a 2 with
  | none =>
    rw [d1] at e1
    refine ⟨[], ⟨y, (a : Int), false⟩, bind_eq e1 (bind_eq (a := ([], ⟨y, (a : Int), false⟩)) ?_ rfl), rfl, .inr rfl⟩
    rw [show BIG = 18446744073709551615 + 1 from rfl]
    refine loop_done ?_
    unfold wire_reader_qids_L1
    exact cond_f rfl rfl
  | some q1 =>
    obtain ⟨n1, p1⟩ := q1
    rw [d1] at e1
    obtain ⟨a1, b1, c1, g1⟩ := decN_enc d1 (by omega)
    have hn : n1 ≤ 65535 := by
      unfold decN at d1
      split at d1
      · cases d1
      · split at d1
        · cases d1
        · simp only [Option.some.injEq, Prod.mk.injEq] at d1
          obtain ⟨rfl, _⟩ := d1
          have := leV_two y a (by omega)
          omega
    obtain ⟨l, r, k1, k2, k3⟩ := qids_loop y hs p1 n1 BIG p1 [] (by omega) b1 (Nat.le_refl _) (by simpa using hn) (by simp [encs, win])
    refine ⟨l, r, bind_eq e1 (bind_eq k1 rfl), k2, ?_⟩
    rcases k3 with ⟨k4, k5, p2, k6, k7, k8, k9⟩ | k3
    · refine .inl ⟨k4, p2, k6, by omega, k8, ?_⟩
      unfold encL
      have hl : l.length = n1 := by simpa using k5
      rw [if_pos (by omega), k9, hl]
      unfold encN at g1
      split at g1
      · have g1 := Option.some.inj g1
        rw [g1, Option.map_some, win_join y a 2 (p2 - p1) p1 (p2 - a) (by omega) (by omega)]
      · cases g1
    · exact .inr k3
/-! ### Data -/
theorem rdata (y : Str) (a w : Nat) (h1 : 1 ≤ w) (h8 : w ≤ 8) (h : a ≤ y.length) (hs : y.length ≤ 1000000) : ∃ s r, wire_reader_data ⟨y, (a : Int), true⟩ (w : Int) = some (s, r) ∧ Rd y a (encD · w) s r := by
  unfold wire_reader_data
  have e1 := rnum y a w h1 h8 h hs
  cases d1 : decN y a w with
  | none =>
    rw [d1] at e1
    exact ⟨_, _, bind_eq e1 (cond_t rfl rfl), rfl, .inr rfl⟩
  | some q1 =>
    obtain ⟨n1, p1⟩ := q1
    rw [d1] at e1
    obtain ⟨a1, b1, c1, g1⟩ := decN_enc d1 h8
    have hc1 : n1 ≤ 9223372036854775807 := c1
    have ew : w64 ((y.length : Int) - (p1 : Int)) = ((y.length - p1 : Nat) : Int) := by rw [w64_eq ⟨by omega, by omega⟩]; omega
    by_cases hlt : n1 > y.length - p1
    · refine ⟨[], ⟨y, (p1 : Int), false⟩, bind_eq e1 (cond_t ?_ rfl), rfl, .inr rfl⟩
      show (!true || decide ((n1 : Int) > w64 ((y.length : Int) - (p1 : Int)))) = true
      rw [ew]; simp; omega
    · have ex : w64 ((p1 : Int) + (n1 : Int)) = ((p1 + n1 : Nat) : Int) := by rw [w64_eq ⟨by omega, by omega⟩]; omega
      have ey : w64 (((p1 + n1 : Nat) : Int) - (n1 : Int)) = (p1 : Int) := by rw [w64_eq ⟨by omega, by omega⟩]; omega
      refine ⟨win y p1 n1, ⟨y, ((p1 + n1 : Nat) : Int), true⟩, bind_eq e1 (cond_f ?_ ?_), rfl, .inl ⟨rfl, p1 + n1, rfl, by omega, by show p1 + n1 ≤ y.length; omega, ?_⟩⟩
      · show (!true || decide ((n1 : Int) > w64 ((y.length : Int) - (p1 : Int)))) = false
        rw [ew]; simp; omega
      · show Option.bind (subI y (w64 (w64 ((p1 : Int) + (n1 : Int)) - (n1 : Int))) (w64 ((p1 : Int) + (n1 : Int)))) _ = _
        rw [ex, ey, ← ex]
        refine bind_eq (win_sub y p1 n1 (by omega) (by omega)) ?_
        show some (win y p1 n1, (⟨y, w64 ((p1 : Int) + (n1 : Int)), true⟩ : wire_reader)) = _
        rw [ex]
      · have hl : (win y p1 n1).length = n1 := win_len (by omega)
        show encD (win y p1 n1) w = _
        unfold encD
        rw [hl]
        unfold encN at g1
        split at g1
        · rename_i hf
          have g1 := Option.some.inj g1
          rw [if_pos hf, g1, win_join y a w n1 p1 (p1 + n1 - a) a1 (by omega)]
        · cases g1
theorem rdata_no (y : Str) (a w : Int) : ∃ s, wire_reader_data ⟨y, a, false⟩ w = some (s, ⟨y, a, false⟩) := by
  unfold wire_reader_data
  exact ⟨_, bind_eq (rnum_no _ _ _) (cond_t rfl rfl)⟩
/-! ### Descriptions -/
theorem rstat (y : Str) (a : Nat) (h : a ≤ y.length) (hs : y.length ≤ 1000000) : ∃ d r, wire_reader_stat ⟨y, (a : Int), true⟩ = some (d, r) ∧ Rd y a encS d r := by
  unfold wire_reader_stat
  obtain ⟨s, r, e1, hy, hr⟩ := rdata y a 2 (by omega) (by omega) h hs
  rw [show ((2 : Nat) : Int) = 2 from rfl] at e1
  rcases hr with ⟨hok, p, hat, h1, h2, h3⟩ | hno
  · obtain rfl := reader_eq hy hat hok
    have h3 : encD s 2 = some (win y a (p - a)) := h3
    have hsl : s.length ≤ y.length := by
      unfold encD at h3
      split at h3
      · have h3 := congrArg List.length (Option.some.inj h3)
        rw [List.length_append, win_len (by omega)] at h3
        omega
      · cases h3
    have hg := stat_get_eq s 0 (by omega) (by omega)
    rw [show ((0 : Nat) : Int) = 0 from rfl] at hg
    refine ⟨_, _, bind_eq e1 (cond_f rfl (bind_eq hg rfl)), rfl, ?_⟩
    cases hc : ((getR s 0).2.2 == 0 && (getR s 0).2.1 == (s.length : Int)) with
    | false => exact .inr rfl
    | true =>
      refine .inl ⟨rfl, p, rfl, h1, h2, ?_⟩
      simp only [Bool.and_eq_true, beq_iff_eq] at hc
      obtain ⟨k1, k2⟩ := putB_getR s (getR s 0).1 (by rw [← hc.1, ← hc.2])
      unfold encS
      rw [if_pos k1, k2]
      unfold encD at h3
      split at h3
      · exact h3
      · cases h3
  · refine ⟨_, _, bind_eq e1 (cond_t (by simp [hno]) rfl), hy, .inr hno⟩
theorem rstat_no (y : Str) (a : Int) : ∃ d, wire_reader_stat ⟨y, a, false⟩ = some (d, ⟨y, a, false⟩) := by
  unfold wire_reader_stat
  obtain ⟨s, hs⟩ := rdata_no y a 2
  exact ⟨_, bind_eq hs (cond_t rfl rfl)⟩
end Go.Proofs.YtboplmpnjepdnaaGreat
