/-
  Plain laws: what octet.Get and the readers of numbers compute. No program in sight.
-/
import Derived.Test.YtglcohgjcjaamaaPc
namespace Go.Proofs.Ytglcohgjcjaamaa
open Go.Rt Go.RowKit

/-! ### Values of bytes -/
def leV : Str → Nat
  | [] => 0
  | b :: r => b.toNat + 256 * leV r
theorem leV_lt : ∀ (s : Str), leV s < 2 ^ (8 * s.length)
  | [] => by simp [leV]
  | b :: r => by
    have h := leV_lt r
    have hb := b.toNat_lt
    simp only [leV, List.length_cons]
    rw [show 8 * (r.length + 1) = 8 * r.length + 8 by omega, Nat.pow_add]
    omega
def win (s : Str) (at_ w : Nat) : Str := (s.drop at_).take w
theorem win_len {s : Str} {at_ w : Nat} (h : at_ + w ≤ s.length) : (win s at_ w).length = w := by simp [win]; omega
theorem win_drop {s : Str} {at_ w j : Nat} (h : at_ + w ≤ s.length) (hj : j < w) : (win s at_ w).drop (w - (j + 1)) = s[at_ + (w - 1 - j)]'(by omega) :: (win s at_ w).drop (w - j) := by
  have hl := win_len h
  rw [List.drop_eq_getElem_cons (by omega : w - (j + 1) < (win s at_ w).length)]
  congr 1
  · simp only [win, List.getElem_take, List.getElem_drop]
    congr 1
    omega
  · congr 1
    omega
theorem or_byte (a b : Nat) (hb : b < 256) : (a * 256) ||| b = a * 256 + b := by
  have := Nat.shiftLeft_add_eq_or_of_lt (i := 8) (b := b) (by omega) a
  rw [Nat.shiftLeft_eq] at this
  exact this.symm
theorem get_loop (s : Str) (at_ w : Nat) (h1 : 1 ≤ w) (h8 : w ≤ 8) (h : at_ + w ≤ s.length) (hs : s.length ≤ 9223372036854775807) : loopF (octet_Get_L1 s (at_ : Int)) BIG (0, w64 ((w : Int) - 1)) = some (leV (win s at_ w) : Int) := by
  have hB : BIG = 18446744073709551616 := rfl
  have hw := loop_traj (body := octet_Get_L1 s (at_ : Int)) (fun j => (((leV ((win s at_ w).drop (w - j)) : Nat) : Int), (w : Int) - 1 - (j : Int))) w (by omega) (b := (leV (win s at_ w) : Int)) (fun j hj => ?_) ?_
  · have e : (win s at_ w).drop (w - 0) = [] := List.drop_eq_nil_of_le (by rw [win_len h]; omega)
    simp only [e, leV] at hw
    rw [w64_eq ⟨by omega, by omega⟩]
    simpa using hw
  · unfold octet_Get_L1
    have hlt := leV_lt ((win s at_ w).drop (w - j))
    have hdl : ((win s at_ w).drop (w - j)).length = j := by rw [List.length_drop, win_len h]; omega
    rw [hdl] at hlt
    have hpw : 2 ^ (8 * j) ≤ 2 ^ 56 := Nat.pow_le_pow_right (by omega) (by omega)
    refine cond_t (by simp; omega) ?_
    have ei : w64 ((at_ : Int) + ((w : Int) - 1 - (j : Int))) = ((at_ + (w - 1 - j) : Nat) : Int) := by
      rw [w64_eq ⟨by omega, by omega⟩]; omega
    show Option.bind (byteI s (w64 ((at_ : Int) + ((w : Int) - 1 - (j : Int))))) _ = _
    rw [ei]
    refine bind_eq (byteI_lt (by omega)) ?_
    rw [win_drop h hj]
    simp only [leV]
    generalize s[at_ + (w - 1 - j)]'(by omega) = b
    have hb := b.toNat_lt
    generalize leV ((win s at_ w).drop (w - j)) = v at hlt ⊢
    show some (Step.next (orI .u64 (IntKind.u64.wrap ((v : Int) * 2 ^ 8)) (IntKind.u64.wrap (b.toNat : Int)), w64 ((w : Int) - 1 - (j : Int) - 1))) = _
    have e1 : IntKind.u64.wrap ((v : Int) * 2 ^ 8) = ((v * 256 : Nat) : Int) := by rw [wu64]; omega
    have e2 : IntKind.u64.wrap (b.toNat : Int) = (b.toNat : Int) := by rw [wu64]; omega
    rw [e1, e2, orI_u64 (by omega) (by omega), or_byte _ _ hb, w64_eq ⟨by omega, by omega⟩]
    congr 3
    · omega
    · omega
  · unfold octet_Get_L1
    refine cond_f (by simp; omega) ?_
    simp
theorem get_eq (s : Str) (at_ w : Nat) (h1 : 1 ≤ w) (h8 : w ≤ 8) (h : at_ ≤ s.length) (hs : s.length ≤ 9223372036854775807) :
    octet_Get s (at_ : Int) (w : Int) = some (if s.length - at_ < w then (0, 0, 3) else if leV (win s at_ w) > 9223372036854775807 then (0, 0, 5) else ((leV (win s at_ w) : Int), ((at_ + w : Nat) : Int), 0)) := by
  unfold octet_Get
  refine cond_f (by simp; omega) ?_
  have el : w64 ((s.length : Int) - (at_ : Int)) = ((s.length - at_ : Nat) : Int) := by rw [w64_eq ⟨by omega, by omega⟩]; omega
  rw [el]
  by_cases hlt : s.length - at_ < w
  · rw [if_pos hlt]
    exact cond_t (by simp; omega) rfl
  · rw [if_neg hlt]
    refine cond_f (by simp; omega) ?_
    refine bind_eq (get_loop s at_ w h1 h8 (by omega) hs) ?_
    by_cases hv : leV (win s at_ w) > 9223372036854775807
    · rw [if_pos hv]
      exact cond_t (by simp; omega) rfl
    · rw [if_neg hv]
      refine cond_f (by simp; omega) ?_
      rw [wi64_eq (n := (leV (win s at_ w) : Int)) ⟨by omega, by omega⟩, w64_eq (n := (at_ : Int) + (w : Int)) ⟨by omega, by omega⟩]
      rfl

/-! ### Numbers of the reference -/
def all255 (s : Str) : Bool := s.all (· == 255)
def numF (s : Str) : Int := if all255 s then -1 else if leV s > 9223372036854775807 then 9223372036854775807 else (leV s : Int)
def numR (s : Str) : Int := if all255 s then -1 else if leV s > 9223372036854775807 then -2 else (leV s : Int)
theorem number_loop (s : Str) (at_ w : Nat) (h1 : 1 ≤ w) (h8 : w ≤ 8) (h : at_ + w ≤ s.length) (hs : s.length ≤ 9223372036854775807) :
    loopF (ref07_number_L1 s (at_ : Int)) BIG (0, true, w64 ((w : Int) - 1)) = some ((if leV (win s at_ w) > 9223372036854775807 then 9223372036854775807 else (leV (win s at_ w) : Int)), all255 (win s at_ w)) := by
  have hB : BIG = 18446744073709551616 := rfl
  let V : Nat → Nat := fun j => leV ((win s at_ w).drop (w - j))
  let C : Nat → Bool := fun j => all255 ((win s at_ w).drop (w - j))
  let R : Nat → Int := fun j => if V j > 9223372036854775807 then 9223372036854775807 else (V j : Int)
  have hw := loop_traj (body := ref07_number_L1 s (at_ : Int)) (fun j => (R j, C j, (w : Int) - 1 - (j : Int))) w (by omega) (b := (R w, C w)) (fun j hj => ?_) ?_
  · have e : (win s at_ w).drop (w - 0) = [] := List.drop_eq_nil_of_le (by rw [win_len h]; omega)
    have e2 : (win s at_ w).drop (w - w) = win s at_ w := by simp
    have r0 : R 0 = 0 := by simp only [R, V, e, leV]; rfl
    have c0 : C 0 = true := by simp only [C, e]; rfl
    simp only [r0, c0] at hw
    rw [w64_eq ⟨by omega, by omega⟩]
    simp only [R, V, C, e2] at hw
    simpa using hw
  · unfold ref07_number_L1
    have hlt : V j < 2 ^ (8 * j) := by
      have := leV_lt ((win s at_ w).drop (w - j))
      rwa [show ((win s at_ w).drop (w - j)).length = j by rw [List.length_drop, win_len h]; omega] at this
    have hpw : 2 ^ (8 * j) ≤ 2 ^ 56 := Nat.pow_le_pow_right (by omega) (by omega)
    have hRj : R j = (V j : Int) := by simp only [R]; rw [if_neg (by omega)]
    have ei : w64 ((at_ : Int) + ((w : Int) - 1 - (j : Int))) = ((at_ + (w - 1 - j) : Nat) : Int) := by
      rw [w64_eq ⟨by omega, by omega⟩]; omega
    have hby := byteI_lt (s := s) (i := at_ + (w - 1 - j)) (by omega)
    have hV : V (j + 1) = (s[at_ + (w - 1 - j)]'(by omega)).toNat + 256 * V j := by simp only [V]; rw [win_drop h hj]; rfl
    have hC : C (j + 1) = ((s[at_ + (w - 1 - j)]'(by omega)) == 255 && C j) := by simp only [C]; rw [win_drop h hj]; rfl
    generalize s[at_ + (w - 1 - j)]'(by omega) = b at hby hV hC
    have hb := b.toNat_lt
    have hb255 : (((b.toNat : Nat) : Int) == 255) = (b == 255) := by
      rw [Bool.eq_iff_iff]
      simp only [beq_iff_eq]
      constructor
      · intro hh
        apply UInt8.toNat_inj.1
        show b.toNat = 255
        omega
      · intro hh
        rw [hh]; rfl
    refine cond_t (by simp; omega) ?_
    refine bind_eq (a := (R (j + 1), C (j + 1))) ?_ ?_
    · refine bind_eq (a := C (j + 1)) ?_ ?_
      · show (bif C j then Option.bind (byteI s (w64 ((at_ : Int) + ((w : Int) - 1 - (j : Int))))) _ else some false) = _
        cases hc : C j with
        | true =>
          refine cond_t rfl ?_
          rw [ei]
          refine bind_eq hby ?_
          rw [hb255, hC, hc, Bool.and_true]
        | false =>
          refine cond_f rfl ?_
          rw [hC, hc, Bool.and_false]
      · show (bif decide (R j ≥ 36028797018963968) then _ else _) = _
        by_cases hs55 : V j ≥ 36028797018963968
        · refine cond_t (by rw [hRj]; simp; omega) ?_
          have hR : R (j + 1) = 9223372036854775807 := by simp only [R]; rw [if_pos (by omega)]
          rw [hR]
        · refine cond_f (by rw [hRj]; simp; omega) ?_
          show Option.bind (byteI s (w64 ((at_ : Int) + ((w : Int) - 1 - (j : Int))))) _ = _
          rw [ei]
          refine bind_eq hby ?_
          have hR : R (j + 1) = ((b.toNat + 256 * V j : Nat) : Int) := by simp only [R]; rw [if_neg (by omega), hV]
          rw [hR, hRj, w64_eq (n := (V j : Int) * 256) ⟨by omega, by omega⟩, wi64_eq (n := (b.toNat : Int)) ⟨by omega, by omega⟩, w64_eq (n := (V j : Int) * 256 + (b.toNat : Int)) ⟨by omega, by omega⟩]
          congr 2
          omega
    · show some (Step.next (R (j + 1), C (j + 1), w64 ((w : Int) - 1 - (j : Int) - 1))) = _
      rw [w64_eq ⟨by omega, by omega⟩]
      congr 4
      omega
  · unfold ref07_number_L1
    exact cond_f (by simp; omega) rfl
theorem ref_number_eq (s : Str) (at_ w : Nat) (h1 : 1 ≤ w) (h8 : w ≤ 8) (h : at_ + w ≤ s.length) (hs : s.length ≤ 9223372036854775807) : ref07_number s (at_ : Int) (w : Int) = some (numF (win s at_ w)) := by
  unfold ref07_number
  refine bind_eq (number_loop s at_ w h1 h8 h hs) ?_
  unfold numF
  cases hc : all255 (win s at_ w) with
  | true => exact cond_t rfl (by simp)
  | false => exact cond_f rfl (by simp)

/-! ### The reader's numbers -/
theorem count_255 (s : Str) : ((s.count 255 : Nat) : Int) = (s.length : Int) ↔ all255 s = true := by
  unfold all255
  rw [List.all_eq_true]
  simp only [beq_iff_eq]
  rw [show (((s.count 255 : Nat) : Int) = (s.length : Int)) ↔ s.count 255 = s.length by omega, List.count_eq_length]
  constructor
  · intro h x hx; exact (h x hx).symm
  · intro h x hx; exact (h x hx).symm
theorem win_sub (s : Str) (at_ w : Nat) (h : at_ + w ≤ s.length) (hs : s.length ≤ 9223372036854775807) : subI s (at_ : Int) (w64 ((at_ : Int) + (w : Int))) = some (win s at_ w) := by
  rw [w64_eq ⟨by omega, by omega⟩, subI_eq (by omega) (by omega) (by omega)]
  congr 1
  simp only [win, Int.toNat_natCast]
  rw [show ((at_ : Int) + (w : Int)).toNat = at_ + w by omega, List.drop_take, show at_ + w - at_ = w by omega]
theorem win_whole (s : Str) : win s 0 s.length = s := by simp [win]
theorem reader_number_eq (s : Str) (at_ w : Nat) (h1 : 1 ≤ w) (h8 : w ≤ 8) (h : at_ + w ≤ s.length) (hs : s.length ≤ 9223372036854775807) :
    stat_reader_number ⟨s, (at_ : Int), true⟩ (w : Int) = some (numR (win s at_ w), ⟨s, ((at_ + w : Nat) : Int), true⟩) := by
  have ea : w64 ((at_ : Int) + (w : Int)) = ((at_ + w : Nat) : Int) := by rw [w64_eq ⟨by omega, by omega⟩]; omega
  have hwl := win_len h
  unfold stat_reader_number
  refine cond_f ?_ ?_
  · show (!true || decide (w64 ((s.length : Int) - (at_ : Int)) < (w : Int))) = false
    rw [w64_eq (n := (s.length : Int) - (at_ : Int)) ⟨by omega, by omega⟩]
    simp; omega
  refine bind_eq (win_sub s at_ w h hs) ?_
  refine bind_eq (a := (((win s at_ w).count 255 : Nat) : Int)) rfl ?_
  unfold numR
  have hc := count_255 (win s at_ w)
  rw [hwl] at hc
  by_cases h255 : all255 (win s at_ w) = true
  · refine cond_t (by simpa using hc.2 h255) ?_
    rw [if_pos h255, ← ea]
  · refine cond_f (by rw [beq_eq_false_iff_ne]; exact fun hh => h255 (hc.1 hh)) ?_
    rw [if_neg h255]
    have hg := get_eq (win s at_ w) 0 w h1 h8 (by omega) (by omega)
    rw [hwl, if_neg (by omega)] at hg
    have hww : win (win s at_ w) 0 w = win s at_ w := by have := win_whole (win s at_ w); rwa [hwl] at this
    rw [hww] at hg
    refine bind_eq hg ?_
    by_cases hv : leV (win s at_ w) > 9223372036854775807
    · rw [if_pos hv, if_pos hv]
      refine cond_t rfl ?_
      rw [← ea]
    · rw [if_neg hv, if_neg hv]
      refine cond_f rfl ?_
      rw [← ea]
end Go.Proofs.Ytglcohgjcjaamaa
