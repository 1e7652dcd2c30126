/-
 What the statements of this seat hang on, part 8: Vb Vc Fh0 Vd Ve Vf Vg Vh.
-/
import Derived.Test.YtolgkhjkdadhiaaGreatYA7
namespace Go.Proofs.YtolgkhjkdadhiaaGreat
open Go.Rt Go.RowKit
def chkB (m : api_Msg) : Bool := msg_Check m == some 0
theorem check_b {m : api_Msg} (h : m.ok) : ∃ c, msg_Check m = some c ∧ ref08_Check m = some c ∧ (c != 0) = !chkB m := by
 obtain ⟨c, hc⟩ := check_some m h.small
 refine ⟨c, hc, (refcheck09 m h).trans hc, ?_⟩
 unfold chkB
 rw [hc]
 by_cases h0 : c = 0
 ·subst h0; rfl
 ·have h1 : (c != 0) = true := by simpa using h0
  have h2 : ((some c : Option Int) == some 0) = false := by simpa using h0
  rw [h1, h2]; rfl
def notFl (l : List api_Call) (t : Int) : Bool := match l.find? (hasT t) with
 | some y => y.Req_.Kind_ != 108
 | none => true
def callK (l : List api_Call) (x : api_Call) : Bool :=
 bif x.Req_.Kind_ == 100 then (decide (l.length = 1) && x.Flush_ == 65535)
 else bif x.Req_.Kind_ == 108 then (((decide (x.Req_.Tag_ ≥ 1) && flu l x.Req_.OldTag_ == x.Req_.Tag_) && x.Flush_ == 65535) && notFl l x.Req_.OldTag_)
 else (decide (x.Req_.Tag_ ≥ 1) && x.Flush_ == flu l x.Req_.Tag_)
def callOK (l : List api_Call) (i : Nat) (x : api_Call) : Bool := ((reqB x.Req_.Kind_ && chkB x.Req_) && idxT l x.Req_.Tag_ == (i : Int)) && callK l x
theorem idx_find (l : List api_Call) (t : Int) : (l.find? (hasT t) = none ∧ idxT l t = -1) ∨ ∃ (i : Nat) (x : api_Call), l.find? (hasT t) = some x ∧ idxT l t = (i : Int) ∧ l[i]? = some x ∧ x.Req_.Tag_ = t := by
 rcases at_find (hasT t) l with h | ⟨i, x, h1, h2, h3, h4, _⟩
 ·exact .inl h
 ·exact .inr ⟨i, x, h1, h2, h3, by simpa [hasT] using h4⟩
theorem rightCall_eq {l : List api_Call} {i : Nat} (hi : i < l.length) (hl : l.length ≤ 1000000) (hok : l[i].Req_.ok) : rpc_rightCall l (i : Int) = some (callOK l i l[i]) := by
 unfold rpc_rightCall
 obtain ⟨c, hc, _, hb⟩ := check_b hok
 refine bind_eq (getI_lt hi) ?_
 have hg := getI_lt hi
 generalize l[i] = x at *
 refine bind_eq (request_eq _) (bind_eq (a := !(reqB x.Req_.Kind_ && chkB x.Req_)) ?_ (bind_eq (a := !((reqB x.Req_.Kind_ && chkB x.Req_) && idxT l x.Req_.Tag_ == (i : Int))) ?_ ?_))
 ·cases reqB x.Req_.Kind_ with
  | false => rfl
  | true => exact cond_f rfl (bind_eq hc (by rw [hb]; rfl))
 ·cases reqB x.Req_.Kind_ && chkB x.Req_ with
  | false => rfl
  | true => exact cond_f rfl (bind_eq (index_eq _ hl) (by simp [bne]))
 ·unfold callOK
  cases (reqB x.Req_.Kind_ && chkB x.Req_) && idxT l x.Req_.Tag_ == (i : Int) with
  | false => rfl
  | true =>
   refine cond_f rfl ?_
   rw [Bool.true_and]
   unfold callK
   cases x.Req_.Kind_ == 100 with
   | true =>
    refine cond_t rfl ?_
    have e : ((l.length : Int) == 1) = decide (l.length = 1) := by
     rw [Bool.eq_iff_iff]; simp; omega
    rw [e, cond_true]
    cases decide (l.length = 1) with
    | false => rfl
    | true => exact bind_eq (cond_t rfl (bind_eq hg rfl)) (by simp)
   | false =>
    refine cond_f rfl ?_
    rw [cond_false]
    cases x.Req_.Kind_ == 108 with
    | true =>
     rw [cond_true, cond_true]
     refine bind_eq (index_eq _ hl) (bind_eq (a := decide (x.Req_.Tag_ ≥ 1) && flu l x.Req_.OldTag_ == x.Req_.Tag_) ?_ (bind_eq (a := (decide (x.Req_.Tag_ ≥ 1) && flu l x.Req_.OldTag_ == x.Req_.Tag_) && x.Flush_ == 65535) ?_ (bind_eq ?_ rfl)))
     ·cases decide (x.Req_.Tag_ ≥ 1) with
      | false => rfl
      | true => exact cond_t rfl (bind_eq (flusher_eq _ hl) (by simp))
     ·cases decide (x.Req_.Tag_ ≥ 1) && flu l x.Req_.OldTag_ == x.Req_.Tag_ with
      | false => rfl
      | true => exact cond_t rfl (bind_eq hg (by simp))
     ·cases (decide (x.Req_.Tag_ ≥ 1) && flu l x.Req_.OldTag_ == x.Req_.Tag_) && x.Flush_ == 65535 with
      | false => rfl
      | true =>
       refine cond_t rfl (bind_eq (a := notFl l x.Req_.OldTag_) ?_ (by simp))
       unfold notFl
       rcases idx_find l x.Req_.OldTag_ with ⟨h1, h2⟩ | ⟨j, y, h1, h2, h3, _⟩
       ·rw [h1, h2]; rfl
       ·rw [h1, h2]
        refine cond_f (by simp) (bind_eq (a := y) (by rw [getI_nat, h3]) rfl)
    | false =>
     rw [cond_false, cond_false]
     refine bind_eq (a := decide (x.Req_.Tag_ ≥ 1) && x.Flush_ == flu l x.Req_.Tag_) ?_ rfl
     cases decide (x.Req_.Tag_ ≥ 1) with
     | false => rfl
     | true => exact cond_t rfl (bind_eq hg (bind_eq (flusher_eq _ hl) (by simp)))
def noO (b : Bool) : Option Bool := if b then none else some false
def callsB (l : List api_Call) : Bool := (scan (fun i x => noO (callOK l i x)) 0 l).isNone
theorem scan_noO {α : Type} (p : Nat → α → Bool) : ∀ (l : List α) (k : Nat), scan (fun i x => noO (p i x)) k l = none ∨ scan (fun i x => noO (p i x)) k l = some false
 | [], _ => .inl rfl
 | x :: l, k => by
  simp only [scan]
  cases p k x with
  | true => exact scan_noO p l (k + 1)
  | false => exact .inr rfl
def fidOK (l : List Int) (i : Nat) (n : Int) : Bool := !((decide (n < 0) || decide (n > 4294967294)) || (decide (0 < i) && decide (l.getD (i - 1) 0 ≥ n)))
def fidsB (l : List Int) : Bool := (scan (fun i x => noO (fidOK l i x)) 0 l).isNone
theorem calls_loop {c : api_Client} (hl : c.Calls_.length ≤ 1000000) (hok : ∀ x ∈ c.Calls_, x.Req_.ok) : loopF (rpc_Right_L1 c) BIG 0 = some (outO (scan (fun i x => noO (callOK c.Calls_ i x)) 0 c.Calls_)) := by
 have hB : BIG = 18446744073709551616 := rfl
 refine loop_scan c.Calls_ _ (by omega) (fun i hi => ?_) ?_
 ·unfold rpc_Right_L1
  refine cond_t (lt_t hi) (bind_eq (rightCall_eq hi hl (hok _ (List.getElem_mem hi))) ?_)
  cases callOK c.Calls_ i c.Calls_[i] with
  | true => refine cond_f rfl ?_; rw [w_succ (by omega)]; rfl
  | false => rfl
 ·unfold rpc_Right_L1
  exact cond_f (lt_f _) rfl
theorem getD_prev {l : List Int} {i : Nat} (h0 : 0 < i) (hi : i < l.length) : getI l (w64 ((i : Int) - 1)) = some (l.getD (i - 1) 0) ∨ ¬ i ≤ 1000000 := by
 by_cases h : i ≤ 1000000
 ·left
  rw [w_pred h0 (by omega), getI_lt (by omega), List.getD_eq_getElem?_getD, List.getElem?_eq_getElem (by omega)]; rfl
 ·exact .inr h
theorem fids_loop {l : List Int} (hl : l.length ≤ 1000000) : loopF (rpc_rightFids_L1 l) BIG 0 = some (outO (scan (fun i x => noO (fidOK l i x)) 0 l)) := by
 have hB : BIG = 18446744073709551616 := rfl
 refine loop_scan l _ (by omega) (fun i hi => ?_) ?_
 ·unfold rpc_rightFids_L1
  refine cond_t (lt_t hi) (bind_eq (getI_lt hi) (bind_eq (a := !(fidOK l i l[i])) ?_ ?_))
  ·unfold fidOK
   cases decide (l[i] < 0) || decide (l[i] > 4294967294) with
   | true => rfl
   | false =>
    refine cond_f rfl (bind_eq (a := decide (0 < i) && decide (l.getD (i - 1) 0 ≥ l[i])) ?_ (by simp))
    have e : decide ((i : Int) > 0) = decide (0 < i) := by rw [Bool.eq_iff_iff]; simp
    rw [e]
    cases h0 : decide (0 < i) with
    | false => rfl
    | true =>
     refine cond_t rfl (bind_eq ((getD_prev (by simpa using h0) hi).resolve_right (by omega)) rfl)
  ·cases fidOK l i l[i] with
   | true => refine cond_f rfl ?_; rw [w_succ (by omega)]; rfl
   | false => rfl
 ·unfold rpc_rightFids_L1
  exact cond_f (lt_f _) rfl
theorem rightFids_eq {l : List Int} (hl : l.length ≤ 1000000) : rpc_rightFids l = some (decide (l.length ≤ 256) && fidsB l) := by
 unfold rpc_rightFids
 have e : decide ((l.length : Int) > 256) = !(decide (l.length ≤ 256)) := by rw [Bool.eq_iff_iff]; simp; omega
 rw [e]
 cases decide (l.length ≤ 256) with
 | false => rfl
 | true =>
  refine cond_f rfl (bind_eq (fids_loop hl) ?_)
  unfold fidsB
  rcases scan_noO (fidOK l) l 0 with h | h <;> rw [h] <;> rfl
def msB (c : api_Client) : Bool := !((c.Msize_ != 0) && (decide (c.Msize_ < 256) || decide (c.Msize_ > 8192)))
def splB (c : api_Client) : Bool := decide (wire_Split c.Partial_ c.Msize_ = some ([], c.Partial_, 0))
def rightB (c : api_Client) : Bool :=
 ((((msB c && decide (c.Session_.length ≤ 64)) && (decide (c.Fids_.length ≤ 256) && fidsB c.Fids_)) && (decide (c.Calls_.length ≤ 64) && callsB c.Calls_)) && splB c) && (c.Up_ || (decide (c.Calls_.length = 0) && (c.Partial_ == [])))
theorem split_some {x : Str} (n : Int) (hs : x.length ≤ 1000000) : ∃ v, wire_Split x n = some v := by
 rcases split_all x n hs with ⟨ms, r, h⟩ | ⟨e, e1, _⟩
 ·exact ⟨_, split_spl hs h⟩
 ·exact ⟨_, e1⟩
theorem splB_eq {c : api_Client} {v : List api_Msg × Str × Int} (h : wire_Split c.Partial_ c.Msize_ = some v) : ((decide ((v.1.length : Int) > 0) || (!(v.2.1 == c.Partial_))) || (v.2.2 != 0)) = !(splB c) := by
 unfold splB
 rw [h]
 obtain ⟨a, b, e⟩ := v
 rw [Bool.eq_iff_iff]
 simp only [Bool.or_eq_true, decide_eq_true_eq, Bool.not_eq_true', bne_iff_ne, beq_eq_false_iff_ne, decide_eq_false_iff_not, Option.some.injEq, Prod.mk.injEq, not_and]
 constructor
 ·rintro ((h | h) | h) h1 h2
  ·rw [h1] at h; exact absurd h (by simp)
  ·exact absurd h2 h
  ·exact h
 ·intro h1
  by_cases ha : a = []
  ·by_cases hb : b = c.Partial_
   ·exact .inr (h1 ha hb)
   ·exact .inl (.inr hb)
  ·have := List.length_pos_iff.2 ha
   exact .inl (.inl (by omega))
structure RSz (c : api_Client) : Prop where
 calls : c.Calls_.length ≤ 1000000
 fids : c.Fids_.length ≤ 1000000
 part : c.Partial_.length ≤ 1000000
 ok : ∀ x ∈ c.Calls_, x.Req_.ok
theorem up_eq (c : api_Client) : (c.Up_ || (((c.Calls_.length : Int) == 0) && (c.Partial_ == []))) = (c.Up_ || (decide (c.Calls_.length = 0) && (c.Partial_ == []))) := by
 have e : ((c.Calls_.length : Int) == 0) = decide (c.Calls_.length = 0) := by rw [Bool.eq_iff_iff]; simp
 rw [e]
theorem right_eq {c : api_Client} (h : RSz c) : rpc_Right c = some (rightB c) := by
 unfold rpc_Right rightB
 obtain ⟨v, hv⟩ := split_some c.Msize_ h.part
 have hs := splB_eq hv
 have e0 : decide ((c.Session_.length : Int) > 64) = !(decide (c.Session_.length ≤ 64)) := by rw [Bool.eq_iff_iff]; simp; omega
 have e1 : decide ((c.Calls_.length : Int) > 64) = !(decide (c.Calls_.length ≤ 64)) := by rw [Bool.eq_iff_iff]; simp; omega
 refine bind_eq (a := !((msB c && decide (c.Session_.length ≤ 64)) && (decide (c.Fids_.length ≤ 256) && fidsB c.Fids_))) ?_ ?_
 ·have e2 : (((c.Msize_ != 0) && (decide (c.Msize_ < 256) || decide (c.Msize_ > 8192))) || decide ((c.Session_.length : Int) > 64)) = !(msB c && decide (c.Session_.length ≤ 64)) := by
   rw [e0]; unfold msB; rw [Bool.not_and, Bool.not_not]
  rw [e2]
  cases msB c && decide (c.Session_.length ≤ 64) with
  | false => rfl
  | true => exact cond_f rfl (bind_eq (rightFids_eq h.fids) (by simp))
 ·rw [e1]
  cases (msB c && decide (c.Session_.length ≤ 64)) && (decide (c.Fids_.length ≤ 256) && fidsB c.Fids_) with
  | false => rfl
  | true =>
   cases decide (c.Calls_.length ≤ 64) with
   | false => rfl
   | true =>
    refine cond_f rfl (bind_eq (calls_loop h.calls h.ok) ?_)
    unfold callsB
    rcases scan_noO (callOK c.Calls_) c.Calls_ 0 with h1 | h1 <;> rw [h1]
    ·refine bind_eq hv ?_
     rw [hs, up_eq]
     cases splB c <;> rfl
    ·rfl
theorem refcalls_body {l : List api_Call} {i : Nat} (hi : i < l.length) (hl : l.length ≤ 1000000) (hok : l[i].Req_.ok) : ref38_rightCalls_L1 l (i : Int) = some (stepO (noO (callOK l i l[i])) i) := by
 unfold ref38_rightCalls_L1
 obtain ⟨c, _, hc, hb⟩ := check_b hok
 refine cond_t (lt_t hi) (bind_eq (getI_lt hi) ?_)
 have hg := getI_lt hi
 generalize l[i] = x at *
 have e1 : decide ((l.length : Int) > 1) = !(decide (l.length = 1)) := by rw [Bool.eq_iff_iff]; simp; omega
 have e2 : decide (x.Req_.Tag_ < 1) = !(decide (x.Req_.Tag_ ≥ 1)) := by rw [Bool.eq_iff_iff]; simp
 have hn : (bif false then some (Step.done (.ret false)) else some (.next (w64 ((i : Int) + 1)))) = some (stepO (noO true) i : Step Int (Out Unit Bool)) := by rw [w_succ (by omega)]; rfl
 refine bind_eq (refrequest_eq _) (bind_eq (a := !(reqB x.Req_.Kind_ && chkB x.Req_)) ?_ ?_)
 ·cases reqB x.Req_.Kind_ with
  | false => rfl
  | true => exact cond_f rfl (bind_eq hc (by rw [hb]; rfl))
 ·rw [e1, e2]
  unfold callOK callK
  cases reqB x.Req_.Kind_ && chkB x.Req_ with
  | false => rfl
  | true =>
   cases hi2 : idxT l x.Req_.Tag_ == (i : Int) with
   | false =>
    have e3 : (idxT l x.Req_.Tag_ != (i : Int)) = true := by rw [bne, hi2]; rfl
    refine bind_eq (a := true) ?_ rfl
    cases ((!true || (x.Req_.Kind_ != 100) && !(decide (x.Req_.Tag_ ≥ 1))) || (x.Req_.Kind_ == 100) && !(decide (l.length = 1))) with
    | true => rfl
    | false => exact cond_f rfl (bind_eq (refindex_eq _ hl) (congrArg some e3))
   | true =>
    have e3 : (idxT l x.Req_.Tag_ != (i : Int)) = false := by rw [bne, hi2]; rfl
    refine bind_eq (a := ((x.Req_.Kind_ != 100) && !(decide (x.Req_.Tag_ ≥ 1))) || ((x.Req_.Kind_ == 100) && !(decide (l.length = 1)))) ?_ ?_
    ·rw [Bool.not_true, Bool.false_or]
     cases ((x.Req_.Kind_ != 100) && !(decide (x.Req_.Tag_ ≥ 1))) || ((x.Req_.Kind_ == 100) && !(decide (l.length = 1))) with
     | true => rfl
     | false => exact cond_f rfl (bind_eq (refindex_eq _ hl) (congrArg some e3))
    ·rw [bne]
     cases h1 : x.Req_.Kind_ == 100 with
     | true =>
      have hk : x.Req_.Kind_ = 100 := by simpa using h1
      have h108 : (x.Req_.Kind_ == 108) = false := by rw [hk]; rfl
      rw [h108]
      cases decide (l.length = 1) with
      | false => rfl
      | true =>
       refine cond_f rfl (bind_eq (refindex_eq _ hl) (bind_eq (a := false) rfl (cond_f rfl (bind_eq (refflush_eq _ hl) (bind_eq (a := 65535) rfl (bind_eq hg ?_))))))
       rw [bne]
       cases x.Flush_ == 65535 with
       | true => exact hn
       | false => rfl
     | false =>
      cases decide (x.Req_.Tag_ ≥ 1) with
      | false => cases (x.Req_.Kind_ == 108) <;> rfl
      | true =>
       refine cond_f rfl (bind_eq (refindex_eq _ hl) ?_)
       cases h108 : x.Req_.Kind_ == 108 with
       | true =>
        refine bind_eq (a := !(flu l x.Req_.OldTag_ == x.Req_.Tag_ && notFl l x.Req_.OldTag_)) ?_ ?_
        ·refine cond_t rfl (bind_eq (refflush_eq _ hl) (bind_eq ?_ rfl))
         rw [bne]
         cases flu l x.Req_.OldTag_ == x.Req_.Tag_ with
         | false => rfl
         | true =>
          refine cond_f rfl (bind_eq (a := !notFl l x.Req_.OldTag_) ?_ (by simp))
          unfold notFl
          rcases idx_find l x.Req_.OldTag_ with ⟨h1, h2⟩ | ⟨j, y, h1, h2, h3, _⟩
          ·rw [h1, h2]; rfl
          ·rw [h1, h2]
           exact cond_t (by simp) (bind_eq (a := y) (by rw [getI_nat, h3]) (by simp [bne]))
        ·cases flu l x.Req_.OldTag_ == x.Req_.Tag_ with
         | false => rfl
         | true =>
          cases notFl l x.Req_.OldTag_ with
          | false => cases (x.Flush_ == 65535) <;> rfl
          | true =>
           refine cond_f rfl (bind_eq (refflush_eq _ hl) (bind_eq (a := 65535) rfl (bind_eq hg ?_)))
           rw [bne]
           cases x.Flush_ == 65535 with
           | true => exact hn
           | false => rfl
       | false =>
        refine bind_eq (a := false) rfl (cond_f rfl (bind_eq (refflush_eq _ hl) (bind_eq (a := flu l x.Req_.Tag_) rfl (bind_eq hg ?_))))
        rw [bne]
        cases x.Flush_ == flu l x.Req_.Tag_ with
        | true => exact hn
        | false => rfl
theorem refcalls_eq {l : List api_Call} (hl : l.length ≤ 1000000) (hok : ∀ x ∈ l, x.Req_.ok) : ref38_rightCalls l = some (decide (l.length ≤ 64) && callsB l) := by
 have hB : BIG = 18446744073709551616 := rfl
 have h := loop_scan (body := ref38_rightCalls_L1 l) l (fun i x => noO (callOK l i x)) (by omega) (fun i hi => refcalls_body hi hl (hok _ (List.getElem_mem hi))) (by unfold ref38_rightCalls_L1; exact cond_f (lt_f _) rfl)
 unfold ref38_rightCalls
 refine bind_eq h ?_
 have e : decide ((l.length : Int) ≤ 64) = decide (l.length ≤ 64) := by rw [Bool.eq_iff_iff]; simp; omega
 unfold callsB
 rcases scan_noO (callOK l) l 0 with h1 | h1 <;> rw [h1]
 ·show some (decide ((l.length : Int) ≤ 64)) = _
  rw [e]; simp
 ·simp [outO]
theorem reffids_loop {c : api_Client} (hl : c.Fids_.length ≤ 1000000) : loopF (ref38_Right_L1 c) BIG 0 = some (outO (scan (fun i x => noO (fidOK c.Fids_ i x)) 0 c.Fids_)) := by
 have hB : BIG = 18446744073709551616 := rfl
 refine loop_scan c.Fids_ _ (by omega) (fun i hi => ?_) ?_
 ·unfold ref38_Right_L1
  refine cond_t (lt_t hi) (bind_eq (getI_lt hi) (bind_eq (a := decide (c.Fids_[i] < 0) || decide (c.Fids_[i] > 4294967294)) ?_ (bind_eq (a := !(fidOK c.Fids_ i c.Fids_[i])) ?_ ?_)))
  ·cases decide (c.Fids_[i] < 0) with
   | true => rfl
   | false => exact cond_f rfl (bind_eq (getI_lt hi) (by simp))
  ·unfold fidOK
   cases decide (c.Fids_[i] < 0) || decide (c.Fids_[i] > 4294967294) with
   | true => rfl
   | false =>
    refine cond_f rfl (bind_eq (a := decide (0 < i) && decide (c.Fids_.getD (i - 1) 0 ≥ c.Fids_[i])) ?_ (by simp))
    have e : decide ((i : Int) > 0) = decide (0 < i) := by rw [Bool.eq_iff_iff]; simp
    rw [e]
    cases h0 : decide (0 < i) with
    | false => rfl
    | true => exact cond_t rfl (bind_eq (getI_lt hi) (bind_eq ((getD_prev (by simpa using h0) hi).resolve_right (by omega)) rfl))
  ·cases fidOK c.Fids_ i c.Fids_[i] with
   | true => refine cond_f rfl ?_; rw [w_succ (by omega)]; rfl
   | false => rfl
 ·unfold ref38_Right_L1
  exact cond_f (lt_f _) rfl
theorem refright_eq {c : api_Client} (h : RSz c) : ref38_Right c = some (rightB c) := by
 unfold ref38_Right rightB
 obtain ⟨v, hv⟩ := split_some c.Msize_ h.part
 have hs := splB_eq hv
 have hv2 := (split_both c.Partial_ c.Msize_ h.part).trans hv
 have e0 : decide ((c.Session_.length : Int) > 64) = !(decide (c.Session_.length ≤ 64)) := by rw [Bool.eq_iff_iff]; simp; omega
 have e1 : decide ((c.Fids_.length : Int) > 256) = !(decide (c.Fids_.length ≤ 256)) := by rw [Bool.eq_iff_iff]; simp; omega
 refine bind_eq (a := !(((msB c && decide (c.Session_.length ≤ 64)) && decide (c.Fids_.length ≤ 256)) && (decide (c.Calls_.length ≤ 64) && callsB c.Calls_))) ?_ ?_
 ·have e2 : ((((c.Msize_ != 0) && (decide (c.Msize_ < 256) || decide (c.Msize_ > 8192))) || decide ((c.Session_.length : Int) > 64)) || decide ((c.Fids_.length : Int) > 256)) = !((msB c && decide (c.Session_.length ≤ 64)) && decide (c.Fids_.length ≤ 256)) := by
   rw [e0, e1]; unfold msB; rw [Bool.not_and, Bool.not_and, Bool.not_not]
  rw [e2]
  cases (msB c && decide (c.Session_.length ≤ 64)) && decide (c.Fids_.length ≤ 256) with
  | false => rfl
  | true => exact cond_f rfl (bind_eq (refcalls_eq h.calls h.ok) (by simp))
 ·cases msB c && decide (c.Session_.length ≤ 64) with
  | false => rfl
  | true =>
   cases decide (c.Fids_.length ≤ 256) with
   | false => rfl
   | true =>
    cases decide (c.Calls_.length ≤ 64) && callsB c.Calls_ with
    | false => cases fidsB c.Fids_ <;> rfl
    | true =>
     refine cond_f rfl (bind_eq (reffids_loop h.fids) ?_)
     unfold fidsB
     rcases scan_noO (fidOK c.Fids_) c.Fids_ 0 with h1 | h1 <;> rw [h1]
     ·refine bind_eq hv2 ?_
      have hs2 : (((v.2.2 != 0) || decide ((v.1.length : Int) > 0)) || (!(v.2.1 == c.Partial_))) = !(splB c) := by
       rw [← hs, Bool.or_assoc, Bool.or_comm]
      rw [hs2, up_eq]
      cases splB c <;> rfl
     ·rfl
end Go.Proofs.YtolgkhjkdadhiaaGreat
namespace Go.Proofs.YtolgkhjkdadhiaaGreat
open Go.Rt Go.RowKit
structure CV (l : List api_Call) : Prop where
 each : ∀ x ∈ l, reqB x.Req_.Kind_ = true ∧ chkB x.Req_ = true
 nd : (l.map fun x => x.Req_.Tag_).Nodup
 tag : ∀ x ∈ l, x.Req_.Kind_ ≠ 100 → 1 ≤ x.Req_.Tag_
 ver : ∀ x ∈ l, x.Req_.Kind_ = 100 → l.length = 1 ∧ x.Flush_ = 65535
 one : ∀ x ∈ l, x.Req_.Kind_ = 108 → ∀ y ∈ l, y.Req_.Kind_ = 108 → y.Req_.OldTag_ = x.Req_.OldTag_ → y.Req_.Tag_ = x.Req_.Tag_
 fl : ∀ x ∈ l, x.Req_.Kind_ = 108 → x.Flush_ = 65535 ∧ ∀ y ∈ l, y.Req_.Tag_ = x.Req_.OldTag_ → y.Req_.Kind_ ≠ 108
 other : ∀ x ∈ l, x.Req_.Kind_ ≠ 100 → x.Req_.Kind_ ≠ 108 → x.Flush_ = flu l x.Req_.Tag_
theorem nd_idx {l : List api_Call} (h : (l.map fun x => x.Req_.Tag_).Nodup) {i j : Nat} {x y : api_Call} (hi : l[i]? = some x) (hj : l[j]? = some y) (e : x.Req_.Tag_ = y.Req_.Tag_) : i = j := by
 obtain ⟨hi1, rfl⟩ := List.getElem?_eq_some_iff.1 hi
 obtain ⟨hj1, rfl⟩ := List.getElem?_eq_some_iff.1 hj
 have hp := List.pairwise_iff_getElem.1 h
 rcases Nat.lt_trichotomy i j with h1 | h1 | h1
 ·exact absurd (by rw [List.getElem_map, List.getElem_map]; exact e) (hp i j (by simpa using hi1) (by simpa using hj1) h1)
 ·exact h1
 ·exact absurd (by rw [List.getElem_map, List.getElem_map]; exact e.symm) (hp j i (by simpa using hj1) (by simpa using hi1) h1)
theorem nd_eq {l : List api_Call} (h : (l.map fun x => x.Req_.Tag_).Nodup) {x y : api_Call} (hx : x ∈ l) (hy : y ∈ l) (e : x.Req_.Tag_ = y.Req_.Tag_) : x = y := by
 obtain ⟨i, hi⟩ := List.mem_iff_getElem?.1 hx
 obtain ⟨j, hj⟩ := List.mem_iff_getElem?.1 hy
 obtain rfl := nd_idx h hi hj e
 exact Option.some.inj (hi.symm.trans hj)
theorem flu_spec (l : List api_Call) (t : Int) : ((∀ x ∈ l, isFl t x = false) ∧ flu l t = 65535) ∨ ∃ x ∈ l, isFl t x = true ∧ flu l t = x.Req_.Tag_ := by
 unfold flu
 cases h : l.find? (isFl t) with
 | none => exact .inl ⟨fun x hx => by simpa using List.find?_eq_none.1 h x hx, rfl⟩
 | some x => exact .inr ⟨x, List.mem_of_find?_eq_some h, List.find?_some h, rfl⟩
theorem isFl_iff {t : Int} {x : api_Call} : isFl t x = true ↔ x.Req_.Kind_ = 108 ∧ x.Req_.OldTag_ = t := by
 unfold isFl; simp
theorem flu_none {l : List api_Call} {t : Int} (h : ∀ x ∈ l, isFl t x = false) : flu l t = 65535 := by
 rcases flu_spec l t with h1 | ⟨x, hx, h1, _⟩
 ·exact h1.2
 ·rw [h x hx] at h1; cases h1
theorem flu_some {l : List api_Call} {t : Int} (ho : ∀ x ∈ l, x.Req_.Kind_ = 108 → ∀ y ∈ l, y.Req_.Kind_ = 108 → y.Req_.OldTag_ = x.Req_.OldTag_ → y.Req_.Tag_ = x.Req_.Tag_) {x : api_Call} (hx : x ∈ l) (h : isFl t x = true) : flu l t = x.Req_.Tag_ := by
 rcases flu_spec l t with h1 | ⟨y, hy, h1, h2⟩
 ·rw [h1.1 x hx] at h; cases h
 ·obtain ⟨a, b⟩ := isFl_iff.1 h
  obtain ⟨c, d⟩ := isFl_iff.1 h1
  rw [h2]
  exact ho x hx a y hy c (d.trans b.symm)
theorem noO_none {b : Bool} : noO b = none ↔ b = true := by cases b <;> simp [noO]
theorem callsB_iff (l : List api_Call) : callsB l = true ↔ ∀ i x, l[i]? = some x → callOK l i x = true := by
 unfold callsB
 rw [Option.isNone_iff_eq_none, scan_none]
 simp only [Nat.zero_add, noO_none]
theorem idx_self {l : List api_Call} (h : (l.map fun x => x.Req_.Tag_).Nodup) {i : Nat} {x : api_Call} (hi : l[i]? = some x) : idxT l x.Req_.Tag_ = (i : Int) := by
 rcases idx_find l x.Req_.Tag_ with ⟨h1, _⟩ | ⟨j, y, _, h2, h3, h4⟩
 ·exact absurd (by simp [hasT]) (List.find?_eq_none.1 h1 x (List.mem_of_getElem? hi))
 ·rw [h2, nd_idx h h3 hi h4]
theorem CV.calls {l : List api_Call} (h : CV l) : callsB l = true := by
 rw [callsB_iff]
 intro i x hi
 have hm := List.mem_of_getElem? hi
 obtain ⟨h1, h2⟩ := h.each x hm
 unfold callOK
 rw [h1, h2, idx_self h.nd hi, Bool.true_and, beq_self_eq_true, Bool.true_and]
 unfold callK
 by_cases k1 : x.Req_.Kind_ = 100
 ·obtain ⟨a, b⟩ := h.ver x hm k1
  rw [k1, a, b]; rfl
 ·have e1 : (x.Req_.Kind_ == 100) = false := by simpa using k1
  have ht := h.tag x hm k1
  rw [e1, cond_false]
  by_cases k2 : x.Req_.Kind_ = 108
  ·obtain ⟨a, b⟩ := h.fl x hm k2
   have e2 : flu l x.Req_.OldTag_ = x.Req_.Tag_ := flu_some h.one hm (isFl_iff.2 ⟨k2, rfl⟩)
   rw [k2, a, e2]
   have e3 : notFl l x.Req_.OldTag_ = true := by
    unfold notFl
    rcases idx_find l x.Req_.OldTag_ with ⟨h1, _⟩ | ⟨j, y, h1, _, h3, h4⟩
    ·rw [h1]
    ·rw [h1]; simpa using b y (List.mem_of_getElem? h3) h4
   rw [e3]
   simp
   omega
  ·have e2 : (x.Req_.Kind_ == 108) = false := by simpa using k2
   rw [e2, cond_false, h.other x hm k1 k2]
   simp
   omega
theorem CV.of_calls {l : List api_Call} (h : callsB l = true) : CV l := by
 rw [callsB_iff] at h
 have hall : ∀ (i : Nat) (x : api_Call), l[i]? = some x → (reqB x.Req_.Kind_ = true ∧ chkB x.Req_ = true) ∧ idxT l x.Req_.Tag_ = (i : Int) ∧ callK l x = true := by
  intro i x hi
  have := h i x hi
  unfold callOK at this
  simp only [Bool.and_eq_true, beq_iff_eq] at this
  exact ⟨this.1.1, this.1.2, this.2⟩
 have hmem : ∀ x ∈ l, (reqB x.Req_.Kind_ = true ∧ chkB x.Req_ = true) ∧ callK l x = true := by
  intro x hx
  obtain ⟨i, hi⟩ := List.mem_iff_getElem?.1 hx
  exact ⟨(hall i x hi).1, (hall i x hi).2.2⟩
 have hnd : (l.map fun x => x.Req_.Tag_).Nodup := by
  refine List.pairwise_iff_getElem.2 fun i j hi hj hij e => ?_
  simp only [List.length_map] at hi hj
  simp only [List.getElem_map] at e
  have h1 := (hall i _ (List.getElem?_eq_getElem hi)).2.1
  have h2 := (hall j _ (List.getElem?_eq_getElem hj)).2.1
  rw [e, h2] at h1
  omega
 have hk : ∀ x ∈ l, x.Req_.Kind_ = 108 → 1 ≤ x.Req_.Tag_ ∧ flu l x.Req_.OldTag_ = x.Req_.Tag_ ∧ x.Flush_ = 65535 ∧ notFl l x.Req_.OldTag_ = true := by
  intro x hx k
  have := (hmem x hx).2
  unfold callK at this
  rw [k] at this
  simp only [show ((108 : Int) == 100) = false from rfl, cond_false, show ((108 : Int) == 108) = true from rfl, cond_true, Bool.and_eq_true, decide_eq_true_eq, beq_iff_eq] at this
  exact ⟨this.1.1.1, this.1.1.2, this.1.2, this.2⟩
 have ho : ∀ x ∈ l, x.Req_.Kind_ ≠ 100 → x.Req_.Kind_ ≠ 108 → 1 ≤ x.Req_.Tag_ ∧ x.Flush_ = flu l x.Req_.Tag_ := by
  intro x hx k1 k2
  have := (hmem x hx).2
  unfold callK at this
  rw [show (x.Req_.Kind_ == 100) = false by simpa using k1, show (x.Req_.Kind_ == 108) = false by simpa using k2] at this
  simp only [cond_false, Bool.and_eq_true, decide_eq_true_eq, beq_iff_eq] at this
  exact this
 refine ⟨fun x hx => (hmem x hx).1, hnd, fun x hx k1 => ?_, fun x hx k => ?_, fun x hx kx y hy ky e => ?_, fun x hx k => ⟨(hk x hx k).2.2.1, fun y hy e => ?_⟩, fun x hx k1 k2 => (ho x hx k1 k2).2⟩
 ·by_cases k2 : x.Req_.Kind_ = 108
  ·exact (hk x hx k2).1
  ·exact (ho x hx k1 k2).1
 ·have := (hmem x hx).2
  unfold callK at this
  rw [k] at this
  simp only [show ((100 : Int) == 100) = true from rfl, cond_true, Bool.and_eq_true, decide_eq_true_eq, beq_iff_eq] at this
  exact this
 ·have h1 := (hk x hx kx).2.1
  have h2 := (hk y hy ky).2.1
  rw [e, h1] at h2
  exact h2.symm
 ·have h4 := (hk x hx k).2.2.2
  rcases idx_find l x.Req_.OldTag_ with ⟨h1, _⟩ | ⟨j, z, h1, _, h3, h5⟩
  ·exact absurd (by simpa [hasT] using e) (List.find?_eq_none.1 h1 y hy)
  ·unfold notFl at h4
   rw [h1] at h4
   obtain rfl := nd_eq hnd hy (List.mem_of_getElem? h3) (e.trans h5.symm)
   simpa using h4
theorem CV.nil : CV [] := ⟨(fun _ h => nomatch h), List.nodup_nil, (fun _ h => nomatch h), (fun _ h => nomatch h), (fun _ h => nomatch h), (fun _ h => nomatch h), (fun _ h => nomatch h)⟩
theorem CV.sub {l l' : List api_Call} (h : CV l) (hs : l'.Sublist l) (hf : ∀ x ∈ l', x.Req_.Kind_ ≠ 100 → x.Req_.Kind_ ≠ 108 → flu l' x.Req_.Tag_ = flu l x.Req_.Tag_) : CV l' := by
 have hm : ∀ x ∈ l', x ∈ l := fun x hx => hs.subset hx
 refine ⟨fun x hx => h.each x (hm x hx), h.nd.sublist (hs.map _), fun x hx => h.tag x (hm x hx), fun x hx k => ?_, fun x hx kx y hy => h.one x (hm x hx) kx y (hm y hy), fun x hx k => ⟨(h.fl x (hm x hx) k).1, fun y hy => (h.fl x (hm x hx) k).2 y (hm y hy)⟩, fun x hx k1 k2 => (h.other x (hm x hx) k1 k2).trans (hf x hx k1 k2).symm⟩
 obtain ⟨a, b⟩ := h.ver x (hm x hx) k
 have := hs.length_le
 have h2 := List.length_pos_of_mem hx
 exact ⟨by omega, b⟩
theorem flu_sub {l l' : List api_Call} (h : CV l) (hs : l'.Sublist l) {t : Int} (hx : ∀ x ∈ l, isFl t x = true → x ∈ l') : flu l' t = flu l t := by
 have ho : ∀ x ∈ l', x.Req_.Kind_ = 108 → ∀ y ∈ l', y.Req_.Kind_ = 108 → y.Req_.OldTag_ = x.Req_.OldTag_ → y.Req_.Tag_ = x.Req_.Tag_ := fun x hx kx y hy => h.one x (hs.subset hx) kx y (hs.subset hy)
 rcases flu_spec l t with ⟨h1, h2⟩ | ⟨x, h1, h2, h3⟩
 ·rw [h2]; exact flu_none fun y hy => h1 y (hs.subset hy)
 ·rw [h3]; exact flu_some ho (hx x h1 h2) h2
theorem mem_erase {l : List api_Call} (h : (l.map fun x => x.Req_.Tag_).Nodup) {i : Nat} {x : api_Call} (hi : l[i]? = some x) {y : api_Call} : y ∈ l.eraseIdx i ↔ y ∈ l ∧ y ≠ x := by
 rw [List.mem_eraseIdx_iff_getElem?]
 constructor
 ·rintro ⟨j, hj, hy⟩
  refine ⟨List.mem_of_getElem? hy, fun e => ?_⟩
  subst e
  exact hj (nd_idx h hy hi rfl)
 ·rintro ⟨hy, hne⟩
  obtain ⟨j, hj⟩ := List.mem_iff_getElem?.1 hy
  exact ⟨j, fun e => hne (by subst e; exact Option.some.inj (hj.symm.trans hi)), hj⟩
theorem CV.drop {l : List api_Call} (h : CV l) {i : Nat} {x : api_Call} (hi : l[i]? = some x) (hk : x.Req_.Kind_ ≠ 108) : CV (l.eraseIdx i) := by
 have hs := List.eraseIdx_sublist l i
 refine h.sub hs fun z _ _ _ => flu_sub h hs fun y hy e => (mem_erase h.nd hi).2 ⟨hy, fun e2 => hk (by rw [← e2]; exact (isFl_iff.1 e).1)⟩
theorem CV.dropF {l : List api_Call} (h : CV l) {i : Nat} {x : api_Call} (hi : l[i]? = some x) (hn : ∀ z ∈ l.eraseIdx i, z.Req_.Tag_ ≠ x.Req_.OldTag_) : CV (l.eraseIdx i) := by
 have hs := List.eraseIdx_sublist l i
 refine h.sub hs fun z hz _ _ => flu_sub h hs fun y hy e => (mem_erase h.nd hi).2 ⟨hy, fun e2 => hn z hz ?_⟩
 rw [← e2]; exact (isFl_iff.1 e).2.symm
theorem CV.drop2 {l : List api_Call} (h : CV l) {i k : Nat} {x z : api_Call} (hi : l[i]? = some x) (hkx : x.Req_.Kind_ = 108) (hk : (l.eraseIdx i)[k]? = some z) (ht : z.Req_.Tag_ = x.Req_.OldTag_) : CV ((l.eraseIdx i).eraseIdx k) := by
 have hs1 := List.eraseIdx_sublist l i
 have hnd1 : ((l.eraseIdx i).map fun x => x.Req_.Tag_).Nodup := h.nd.sublist (hs1.map _)
 have hs := (List.eraseIdx_sublist (l.eraseIdx i) k).trans hs1
 have hz := (mem_erase h.nd hi).1 (List.mem_of_getElem? hk)
 have hzk : z.Req_.Kind_ ≠ 108 := (h.fl x (List.mem_of_getElem? hi) hkx).2 z hz.1 ht
 refine h.sub hs fun y hy _ _ => flu_sub h hs fun w hw e => (mem_erase hnd1 hk).2 ⟨(mem_erase h.nd hi).2 ⟨hw, fun e2 => ?_⟩, fun e2 => hzk (by rw [← e2]; exact (isFl_iff.1 e).1)⟩
 obtain ⟨hy1, hy2⟩ := (mem_erase hnd1 hk).1 hy
 refine hy2 (nd_eq hnd1 hy1 (List.mem_of_getElem? hk) ?_)
 rw [ht, ← e2]; exact (isFl_iff.1 e).2.symm
theorem mem_set {l : List api_Call} (h : (l.map fun x => x.Req_.Tag_).Nodup) {k : Nat} {z z' : api_Call} (hk : l[k]? = some z) {y : api_Call} (hy : y ∈ l.set k z') : y = z' ∨ (y ∈ l ∧ y ≠ z) := by
 obtain ⟨j, hj⟩ := List.mem_iff_getElem?.1 hy
 rw [List.getElem?_set] at hj
 split at hj
 ·split at hj
  ·exact .inl (Option.some.inj hj).symm
  ·cases hj
 ·rename_i hne
  refine .inr ⟨List.mem_of_getElem? hj, fun e => ?_⟩
  subst e
  exact hne (nd_idx h hk hj rfl)
theorem map_set {l : List api_Call} {k : Nat} {z z' : api_Call} (hk : l[k]? = some z) (e : z'.Req_ = z.Req_) : (l.set k z').map (fun x => x.Req_) = l.map fun x => x.Req_ := by
 refine List.ext_getElem? fun j => ?_
 rw [List.getElem?_map, List.getElem?_map, List.getElem?_set]
 split
 ·rename_i h; subst h
  obtain ⟨h1, _⟩ := List.getElem?_eq_some_iff.1 hk
  rw [if_pos h1, hk]
  show some z'.Req_ = some z.Req_
  rw [e]
 ·rfl
theorem map_tags {l l' : List api_Call} (h : l'.map (fun x => x.Req_) = l.map fun x => x.Req_) : (l'.map fun x => x.Req_.Tag_) = l.map fun x => x.Req_.Tag_ := by
 have e : ∀ l : List api_Call, (l.map fun x => x.Req_.Tag_) = (l.map fun x => x.Req_).map fun m => m.Tag_ := fun l => by rw [List.map_map]; rfl
 rw [e, e, h]
theorem flu_map {l l' : List api_Call} (h : l'.map (fun x => x.Req_) = l.map fun x => x.Req_) (t : Int) : flu l' t = flu l t := by
 have e : ∀ l : List api_Call, flu l t = (((l.map fun x => x.Req_).find? (fun m => m.Kind_ == 108 && m.OldTag_ == t)).map fun m => m.Tag_).getD 65535 := by
  intro l
  unfold flu
  rw [List.find?_map]
  show _ = (((l.find? (isFl t)).map fun x => x.Req_).map _).getD 65535
  rw [Option.map_map]; rfl
 rw [e, e, h]
theorem CV.dropE {l : List api_Call} (h : CV l) {i k : Nat} {x z : api_Call} (hi : l[i]? = some x) (hkx : x.Req_.Kind_ = 108) (hk : (l.eraseIdx i)[k]? = some z) (ht : z.Req_.Tag_ = x.Req_.OldTag_) : CV ((l.eraseIdx i).set k ⟨z.Req_, 65535⟩) := by
 have hs1 := List.eraseIdx_sublist l i
 have hxm := List.mem_of_getElem? hi
 have hnd1 : ((l.eraseIdx i).map fun x => x.Req_.Tag_).Nodup := h.nd.sublist (hs1.map _)
 have hmap := map_set (z' := ⟨z.Req_, 65535⟩) hk rfl
 have hlen : ((l.eraseIdx i).set k ⟨z.Req_, 65535⟩).length = (l.eraseIdx i).length := List.length_set
 have hz := (mem_erase h.nd hi).1 (List.mem_of_getElem? hk)
 -- each call stands for one of before
 have hm : ∀ y ∈ (l.eraseIdx i).set k ⟨z.Req_, 65535⟩, (y = ⟨z.Req_, 65535⟩) ∨ (y ∈ l ∧ y ≠ x ∧ y ≠ z) := fun y hy => by
  rcases mem_set hnd1 hk hy with h1 | ⟨h1, h2⟩
  ·exact .inl h1
  ·obtain ⟨a, b⟩ := (mem_erase h.nd hi).1 h1
   exact .inr ⟨a, b, h2⟩
 have hr : ∀ y ∈ (l.eraseIdx i).set k ⟨z.Req_, 65535⟩, ∃ y0 ∈ l, y0.Req_ = y.Req_ := fun y hy => by
  rcases hm y hy with rfl | ⟨h1, _⟩
  ·exact ⟨z, hz.1, rfl⟩
  ·exact ⟨y, h1, rfl⟩
 have hzk : z.Req_.Kind_ ≠ 108 := (h.fl x hxm hkx).2 z hz.1 ht
 have hone : l.length ≠ 1 := fun e => by
  have h1 := List.length_pos_of_mem (List.mem_of_getElem? hk)
  rw [List.length_eraseIdx] at h1
  have h2 := (List.getElem?_eq_some_iff.1 hi).1
  rw [if_pos h2] at h1
  omega
 refine ⟨fun y hy => ?_, by rw [map_tags hmap]; exact hnd1, fun y hy => ?_, fun y hy ky => ?_, fun y hy ky w hw kw e => ?_, fun y hy ky => ?_, fun y hy k1 k2 => ?_⟩
 ·obtain ⟨y0, h1, h2⟩ := hr y hy
  rw [← h2]; exact h.each y0 h1
 ·obtain ⟨y0, h1, h2⟩ := hr y hy
  rw [← h2]; exact h.tag y0 h1
 ·obtain ⟨y0, h1, h2⟩ := hr y hy
  rw [← h2] at ky
  exact absurd (h.ver y0 h1 ky).1 hone
 ·obtain ⟨y0, h1, h2⟩ := hr y hy
  obtain ⟨w0, h3, h4⟩ := hr w hw
  rw [← h2] at ky e ⊢
  rw [← h4] at kw e ⊢
  exact h.one y0 h1 ky w0 h3 kw e
 ·rcases hm y hy with rfl | ⟨h1, h2, h3⟩
  ·exact absurd ky hzk
  ·refine ⟨(h.fl y h1 ky).1, fun w hw e => ?_⟩
   obtain ⟨w0, h4, h5⟩ := hr w hw
   rw [← h5] at e ⊢
   exact (h.fl y h1 ky).2 w0 h4 e
 ·rw [flu_map hmap]
  rcases hm y hy with rfl | ⟨h1, h2, h3⟩
  ·refine (flu_none fun w hw => ?_).symm
   cases hw2 : isFl z.Req_.Tag_ w with
   | false => rfl
   | true =>
    obtain ⟨a, b⟩ := (mem_erase h.nd hi).1 hw
    obtain ⟨c, d⟩ := isFl_iff.1 hw2
    exact absurd (nd_eq h.nd a hxm (h.one x hxm hkx w a c (d.trans ht))) b
  ·rw [h.other y h1 k1 k2]
   refine (flu_sub h hs1 fun w hw e => (mem_erase h.nd hi).2 ⟨hw, fun e2 => h3 ?_⟩).symm
   refine nd_eq h.nd h1 hz.1 ?_
   rw [ht, ← e2]; exact (isFl_iff.1 e).2.symm
def freeT (l : List api_Call) (n : Int) : Prop := (∀ x ∈ l, x.Req_.Tag_ ≠ n) ∧ ∀ x ∈ l, isFl n x = false
theorem CV.add {l : List api_Call} (h : CV l) {m : api_Msg} (hk : m.Kind_ ≠ 108) (hr : reqB m.Kind_ = true) (hc : chkB m = true) (hv : ∀ x ∈ l, x.Req_.Kind_ ≠ 100) (h100 : m.Kind_ = 100 → l = []) (hn : m.Kind_ ≠ 100 → 1 ≤ m.Tag_ ∧ freeT l m.Tag_) : CV (l ++ [⟨m, 65535⟩]) := by
 have hm : ∀ x ∈ l ++ [(⟨m, 65535⟩ : api_Call)], x ∈ l ∨ x = ⟨m, 65535⟩ := fun x hx => by simpa using hx
 have hf : ∀ t, flu (l ++ [⟨m, 65535⟩]) t = flu l t := fun t => by
  unfold flu
  rw [List.find?_append]
  have : isFl t ⟨m, 65535⟩ = false := by
   cases hb : isFl t ⟨m, 65535⟩ with
   | false => rfl
   | true => exact absurd (isFl_iff.1 hb).1 hk
  cases l.find? (isFl t) with
  | some x => rfl
  | none => simp [List.find?, this]
 refine ⟨fun x hx => ?_, ?_, fun x hx k => ?_, fun x hx k => ?_, fun x hx kx y hy ky => ?_, fun x hx k => ?_, fun x hx k1 k2 => ?_⟩
 ·rcases hm x hx with h1 | rfl
  ·exact h.each x h1
  ·exact ⟨hr, hc⟩
 ·rw [List.map_append, List.nodup_append]
  refine ⟨h.nd, by simp, fun a ha b hb => ?_⟩
  simp only [List.map_cons, List.map_nil, List.mem_singleton] at hb
  subst hb
  obtain ⟨x, hx, rfl⟩ := List.mem_map.1 ha
  by_cases k : m.Kind_ = 100
  ·rw [h100 k] at hx; cases hx
  ·exact (hn k).2.1 x hx
 ·rcases hm x hx with h1 | rfl
  ·exact h.tag x h1 k
  ·exact (hn k).1
 ·rcases hm x hx with h1 | rfl
  ·exact absurd k (hv x h1)
  ·rw [h100 k]; exact ⟨rfl, rfl⟩
 ·rcases hm x hx with h1 | rfl
  ·rcases hm y hy with h2 | rfl
   ·exact h.one x h1 kx y h2 ky
   ·exact absurd ky hk
  ·exact absurd kx hk
 ·rcases hm x hx with h1 | rfl
  ·refine ⟨(h.fl x h1 k).1, fun y hy e => ?_⟩
   rcases hm y hy with h2 | rfl
   ·exact (h.fl x h1 k).2 y h2 e
   ·exact hk
  ·exact absurd k hk
 ·rw [hf]
  rcases hm x hx with h1 | rfl
  ·exact h.other x h1 k1 k2
  ·exact (flu_none (hn k1).2.2).symm
theorem CV.flush {l : List api_Call} (h : CV l) {i : Nat} {x : api_Call} {m : api_Msg} (hi : l[i]? = some x) (k1 : x.Req_.Kind_ ≠ 100) (k2 : x.Req_.Kind_ ≠ 108) (hfl : x.Flush_ = 65535) (ht : ∀ y ∈ l, y.Req_.Tag_ ≠ 65535) (hk : m.Kind_ = 108) (ho : m.OldTag_ = x.Req_.Tag_) (hr : reqB m.Kind_ = true) (hc : chkB m = true) (h1t : 1 ≤ m.Tag_) (hn : freeT l m.Tag_) :
  CV (l.set i ⟨x.Req_, m.Tag_⟩ ++ [⟨m, 65535⟩]) := by
 have hx := List.mem_of_getElem? hi
 have hmap := map_set (z' := ⟨x.Req_, m.Tag_⟩) hi rfl
 have hv : ∀ y ∈ l, y.Req_.Kind_ ≠ 100 := fun y hy k => by
  have h1 := (h.ver y hy k).1
  obtain ⟨j, hj⟩ := List.mem_iff_getElem?.1 hy
  have a := (List.getElem?_eq_some_iff.1 hi).1
  have b := (List.getElem?_eq_some_iff.1 hj).1
  have : i = j := by omega
  subst this
  obtain rfl := Option.some.inj (hi.symm.trans hj)
  exact k1 k
 have hno : ∀ y ∈ l, isFl x.Req_.Tag_ y = false := fun y hy => by
  cases hb : isFl x.Req_.Tag_ y with
  | false => rfl
  | true =>
   have e1 := flu_some h.one hy hb
   rw [← h.other x hx k1 k2, hfl] at e1
   exact absurd e1.symm (ht y hy)
 have hm : ∀ y ∈ l.set i ⟨x.Req_, m.Tag_⟩ ++ [(⟨m, 65535⟩ : api_Call)], (y = ⟨x.Req_, m.Tag_⟩ ∨ (y ∈ l ∧ y ≠ x)) ∨ y = ⟨m, 65535⟩ := fun y hy => by
  rcases List.mem_append.1 hy with h1 | h1
  ·exact .inl (mem_set h.nd hi h1)
  ·exact .inr (by simpa using h1)
 have hr0 : ∀ y ∈ l.set i ⟨x.Req_, m.Tag_⟩ ++ [(⟨m, 65535⟩ : api_Call)], (∃ y0 ∈ l, y0.Req_ = y.Req_) ∨ y = ⟨m, 65535⟩ := fun y hy => by
  rcases hm y hy with (rfl | ⟨h1, _⟩) | h1
  ·exact .inl ⟨x, hx, rfl⟩
  ·exact .inl ⟨y, h1, rfl⟩
  ·exact .inr h1
 have hone : ∀ y ∈ l.set i ⟨x.Req_, m.Tag_⟩ ++ [(⟨m, 65535⟩ : api_Call)], y.Req_.Kind_ = 108 → ∀ z ∈ l.set i ⟨x.Req_, m.Tag_⟩ ++ [(⟨m, 65535⟩ : api_Call)], z.Req_.Kind_ = 108 → z.Req_.OldTag_ = y.Req_.OldTag_ → z.Req_.Tag_ = y.Req_.Tag_ := by
  intro y hy ky z hz kz e
  rcases hr0 y hy with ⟨y0, h1, h2⟩ | rfl
  ·rcases hr0 z hz with ⟨z0, h3, h4⟩ | rfl
   ·rw [← h2] at ky e ⊢
    rw [← h4] at kz e ⊢
    exact h.one y0 h1 ky z0 h3 kz e
   ·have : isFl x.Req_.Tag_ y0 = true := isFl_iff.2 ⟨by rw [h2]; exact ky, by rw [h2, ← e]; exact ho⟩
    rw [hno y0 h1] at this; cases this
  ·rcases hr0 z hz with ⟨z0, h3, h4⟩ | rfl
   ·have : isFl x.Req_.Tag_ z0 = true := isFl_iff.2 ⟨by rw [h4]; exact kz, by rw [h4, e]; exact ho⟩
    rw [hno z0 h3] at this; cases this
   ·rfl
 refine ⟨fun y hy => ?_, ?_, fun y hy k => ?_, fun y hy k => ?_, hone, fun y hy k => ?_, fun y hy q1 q2 => ?_⟩
 ·rcases hr0 y hy with ⟨y0, h1, h2⟩ | rfl
  ·rw [← h2]; exact h.each y0 h1
  ·exact ⟨hr, hc⟩
 ·rw [List.map_append, map_tags hmap, List.nodup_append]
  refine ⟨h.nd, by simp, fun a ha b hb => ?_⟩
  simp only [List.map_cons, List.map_nil, List.mem_singleton] at hb
  subst hb
  obtain ⟨y, hy, rfl⟩ := List.mem_map.1 ha
  exact hn.1 y hy
 ·rcases hr0 y hy with ⟨y0, h1, h2⟩ | rfl
  ·rw [← h2] at k ⊢; exact h.tag y0 h1 k
  ·exact h1t
 ·rcases hr0 y hy with ⟨y0, h1, h2⟩ | rfl
  ·rw [← h2] at k; exact absurd k (hv y0 h1)
  ·rw [show (⟨m, 65535⟩ : api_Call).Req_.Kind_ = m.Kind_ from rfl, hk] at k; omega
 ·rcases hm y hy with (rfl | ⟨h1, h2⟩) | rfl
  ·exact absurd k k2
  ·refine ⟨(h.fl y h1 k).1, fun z hz e => ?_⟩
   rcases hr0 z hz with ⟨z0, h3, h4⟩ | rfl
   ·rw [← h4] at e ⊢; exact (h.fl y h1 k).2 z0 h3 e
   ·have : isFl m.Tag_ y = true := isFl_iff.2 ⟨k, e.symm⟩
    rw [hn.2 y h1] at this; cases this
  ·refine ⟨rfl, fun z hz e => ?_⟩
   have e : z.Req_.Tag_ = x.Req_.Tag_ := e.trans ho
   rcases hr0 z hz with ⟨z0, h3, h4⟩ | rfl
   ·rw [← h4] at e ⊢
    rw [nd_eq h.nd h3 hx e]; exact k2
   ·exact absurd e.symm (hn.1 x hx)
 ·rcases hm y hy with (rfl | ⟨h1, h2⟩) | rfl
  ·exact (flu_some hone (List.mem_append_right _ (List.mem_singleton_self _)) (isFl_iff.2 ⟨hk, ho⟩)).symm
  ·rw [h.other y h1 q1 q2]
   unfold flu
   rw [List.find?_append]
   have e1 := flu_map hmap y.Req_.Tag_
   have : isFl y.Req_.Tag_ ⟨m, 65535⟩ = false := by
    cases hb : isFl y.Req_.Tag_ ⟨m, 65535⟩ with
    | false => rfl
    | true => exact absurd (nd_eq h.nd h1 hx ((isFl_iff.1 hb).2.symm.trans ho)) h2
   unfold flu at e1
   cases hq : (l.set i ⟨x.Req_, m.Tag_⟩).find? (isFl y.Req_.Tag_) with
   | some w => rw [hq] at e1; exact e1.symm
   | none => rw [hq] at e1; rw [← e1]; simp [List.find?, this]
  ·exact absurd hk q2
end Go.Proofs.YtolgkhjkdadhiaaGreat
namespace Go.Proofs.YtolgkhjkdadhiaaGreat
open Go.Rt Go.RowKit
theorem delN_one {α : Type} {xs : List α} {p : Nat} (h : p < xs.length) : delN xs (p : Int) ((p + 1 : Nat) : Int) = some (xs.take p ++ xs.drop (p + 1)) := by
 cases xs with
 | nil => simp at h
 | cons a l =>
  show (if 0 ≤ (p : Int) ∧ (p : Int) ≤ ((p + 1 : Nat) : Int) ∧ ((p + 1 : Nat) : Int) ≤ ((a :: l).length : Int) then some ((a :: l).take (p : Int).toNat ++ (a :: l).drop ((p + 1 : Nat) : Int).toNat) else none) = _
  rw [if_pos ⟨by omega, by omega, by omega⟩, Int.toNat_natCast, Int.toNat_natCast]
end Go.Proofs.YtolgkhjkdadhiaaGreat
namespace Go.Proofs.YtolgkhjkdadhiaaGreat
open Go.Rt Go.RowKit
structure G (c : api_Client) : Prop where
 calls : c.Calls_.length ≤ 1000
 fids : c.Fids_.length ≤ 1000
 part : c.Partial_.length ≤ 100000
 each : ∀ x ∈ c.Calls_, Sz x.Req_ ∧ x.Req_.ok
theorem G.szc {c : api_Client} (h : G c) : SzC c := ⟨h.calls, h.fids, fun x hx => (h.each x hx).1⟩
theorem G.rsz {c : api_Client} (h : G c) : RSz c := ⟨by have := h.calls; omega, by have := h.fids; omega, by have := h.part; omega, fun x hx => (h.each x hx).2⟩
structure RP (c : api_Client) : Prop where
 ms : msB c = true
 sess : c.Session_.length ≤ 64
 fl : c.Fids_.length ≤ 256
 fids : fidsB c.Fids_ = true
 len : c.Calls_.length ≤ 64
 cv : CV c.Calls_
 spl : splB c = true
 up : c.Up_ = true ∨ (c.Calls_ = [] ∧ c.Partial_ = [])
theorem right_iff (c : api_Client) : rightB c = true ↔ RP c := by
 unfold rightB
 simp only [Bool.and_eq_true, Bool.or_eq_true, decide_eq_true_eq, beq_iff_eq, List.length_eq_zero_iff]
 exact ⟨fun ⟨⟨⟨⟨⟨a, b⟩, c, d⟩, e, f⟩, g⟩, h⟩ => ⟨a, b, c, d, e, .of_calls f, g, h⟩, fun h => ⟨⟨⟨⟨⟨h.ms, h.sess⟩, h.fl, h.fids⟩, h.len, h.cv.calls⟩, h.spl⟩, h.up⟩⟩
theorem RP.calls {c : api_Client} (h : RP c) (hu : c.Up_ = true) {l : List api_Call} (hl : l.length ≤ 64) (hc : CV l) : RP ⟨c.Up_, c.Msize_, c.Session_, c.Fids_, l, c.Partial_⟩ :=
 ⟨h.ms, h.sess, h.fl, h.fids, hl, hc, h.spl, .inl hu⟩
theorem req_even {k : Int} (h : reqB k = true) : k ≠ 101 ∧ k ≠ 107 := by
 unfold reqB at h
 rw [Bool.and_eq_true] at h
 constructor <;> (rintro rfl; exact absurd h.1 (by decide))
theorem chk_tagged {m : api_Msg} (h : chkB m = true) : msg_tagged m = some true := by
 unfold chkB at h
 have h : msg_Check m = some 0 := by simpa using h
 unfold msg_Check at h
 obtain ⟨nm, e1⟩ := Option.get_some (name_some m.Kind_)
 rw [e1, Option.bind_some] at h
 cases hn : (nm == []) with
 | true => rw [hn] at h; cases h
 | false =>
  rw [hn, cond_false] at h
  obtain ⟨g, e2⟩ := Option.get_some (tagged_some m)
  rw [e2, Option.bind_some] at h
  cases g with
  | false => cases h
  | true => exact e2
theorem chk_tag {m : api_Msg} (hr : reqB m.Kind_ = true) (h : chkB m = true) : (m.Kind_ = 100 → m.Tag_ = 65535) ∧ (m.Kind_ ≠ 100 → 0 ≤ m.Tag_ ∧ m.Tag_ ≤ 65534) := by
 have ht := chk_tagged h
 obtain ⟨a, b⟩ := req_even hr
 unfold msg_tagged at ht
 refine ⟨fun k => ?_, fun k => ?_⟩
 ·rw [k] at ht
  have : (m.Tag_ == 65535) = true := Option.some.inj ht
  simpa using this
 ·rw [show (m.Kind_ == 100) = false by simpa using k, show (m.Kind_ == 101) = false by simpa using a, show (m.Kind_ == 107) = false by simpa using b] at ht
  have : ((decide (m.Tag_ ≥ 0)) && (decide (m.Tag_ ≤ 65534))) = true := Option.some.inj ht
  simpa using this
theorem CV.not_no {l : List api_Call} (h : CV l) {x : api_Call} (hx : x ∈ l) (k : x.Req_.Kind_ ≠ 100) : x.Req_.Tag_ ≠ 65535 := by
 obtain ⟨a, b⟩ := h.each x hx
 have := ((chk_tag a b).2 k).2
 omega
theorem ver_idx {l : List api_Call} (h : CV l) : decide (idxT l 65535 ≥ 0) = l.any fun x => x.Req_.Kind_ == 100 := by
 rcases idx_find l 65535 with ⟨h1, h2⟩ | ⟨i, x, _, h2, h3, h4⟩
 ·rw [h2]
  symm
  show _ = false
  rw [List.any_eq_false]
  intro x hx
  obtain ⟨a, b⟩ := h.each x hx
  intro k
  exact List.find?_eq_none.1 h1 x hx (by simpa [hasT] using (chk_tag a b).1 (by simpa using k))
 ·rw [h2]
  have hx := List.mem_of_getElem? h3
  have : (l.any fun x => x.Req_.Kind_ == 100) = true := by
   refine List.any_eq_true.2 ⟨x, hx, ?_⟩
   by_cases k : x.Req_.Kind_ = 100
   ·simpa using k
   ·exact absurd h4 (h.not_no hx k)
  rw [this]; simp
def takenB (l : List api_Call) (n : Int) : Bool := decide (idxT l n ≥ 0) || (flu l n != 65535)
theorem taken_mem {l : List api_Call} {n : Int} (h : takenB l n = true) : n ∈ (l.map fun x => x.Req_.Tag_) ++ l.map fun x => x.Req_.OldTag_ := by
 unfold takenB at h
 rw [Bool.or_eq_true] at h
 rw [List.mem_append]
 rcases h with h | h
 ·rcases idx_find l n with ⟨_, h2⟩ | ⟨i, x, _, _, h3, h4⟩
  ·rw [h2] at h; exact absurd h (by decide)
  ·exact .inl (List.mem_map.2 ⟨x, List.mem_of_getElem? h3, h4⟩)
 ·rcases flu_spec l n with ⟨_, h2⟩ | ⟨x, hx, h1, _⟩
  ·rw [h2] at h; exact absurd h (by decide)
  ·exact .inr (List.mem_map.2 ⟨x, hx, (isFl_iff.1 h1).2⟩)
theorem first_free (p : Nat → Bool) : ∀ N : Nat, (∀ n, 1 ≤ n → n ≤ N → p n = true) ∨ ∃ n, 1 ≤ n ∧ n ≤ N ∧ p n = false ∧ ∀ m, 1 ≤ m → m < n → p m = true
 | 0 => .inl fun n h1 h2 => by omega
 | N + 1 => by
  rcases first_free p N with h | ⟨n, h1, h2, h3⟩
  ·cases hp : p (N + 1) with
   | true =>
    refine .inl fun n h1 h2 => ?_
    by_cases e : n = N + 1
    ·rw [e]; exact hp
    ·exact h n h1 (by omega)
   | false => exact .inr ⟨N + 1, by omega, Nat.le_refl _, hp, fun m h1 h2 => h m h1 (by omega)⟩
  ·exact .inr ⟨n, h1, by omega, h3⟩
theorem free_ex {l : List api_Call} (hl : l.length ≤ 1000) : ∃ n : Nat, 1 ≤ n ∧ n ≤ 2001 ∧ takenB l (n : Int) = false ∧ ∀ m : Nat, 1 ≤ m → m < n → takenB l (m : Int) = true := by
 rcases first_free (fun n => takenB l (n : Int)) 2001 with h | h
 ·exfalso
  have h1 : ((List.range' 1 2001).map fun n : Nat => (n : Int)).length ≤ ((l.map fun x => x.Req_.Tag_) ++ l.map fun x => x.Req_.OldTag_).length := by
   refine List.Nodup.length_le_of_subset ?_ fun x hx => ?_
   ·exact List.pairwise_map.2 ((List.nodup_range' (step := 1)).imp fun h => by omega)
   ·obtain ⟨n, hn, rfl⟩ := List.mem_map.1 hx
    have := List.mem_range'_1.1 hn
    exact taken_mem (h n (by omega) (by omega))
  simp at h1
  omega
 ·exact h
theorem free_loop {l : List api_Call} (hl : l.length ≤ 1000) {n : Nat} (hn : n ≤ 2001) (h0 : takenB l (n : Int) = false) (hm : ∀ m : Nat, 1 ≤ m → m < n → takenB l (m : Int) = true) : ∀ (k fuel i : Nat), 1 ≤ i → i + k = n → k < fuel → loopF (rpc_free_L1 l) fuel (i : Int) = some (n : Int) ∧ loopF (ref38_tag_L1 l) fuel (i : Int) = some (.ret (n : Int)) := by
 have hb : ∀ i : Nat, rpc_free_L1 l (i : Int) = bif takenB l (i : Int) then some (.next (w64 ((i : Int) + 1))) else some (.done (i : Int)) := fun i => by
  unfold rpc_free_L1 takenB
  refine bind_eq (index_eq _ (by omega)) (bind_eq (a := decide (idxT l (i : Int) ≥ 0) || (flu l (i : Int) != 65535)) ?_ rfl)
  cases decide (idxT l (i : Int) ≥ 0) with
  | true => rfl
  | false => exact cond_f rfl (bind_eq (flusher_eq _ (by omega)) rfl)
 have hr : ∀ i : Nat, i ≤ 2001 → ref38_tag_L1 l (i : Int) = bif takenB l (i : Int) then some (.next (w64 ((i : Int) + 1))) else some (.done (.ret (i : Int))) := fun i hi => by
  unfold ref38_tag_L1 takenB
  refine cond_t (by simp; omega) (bind_eq (refindex_eq _ (by omega)) (bind_eq (a := !(decide (idxT l (i : Int) ≥ 0) || (flu l (i : Int) != 65535))) ?_ ?_))
  ·have e : decide (idxT l (i : Int) < 0) = !(decide (idxT l (i : Int) ≥ 0)) := by rw [Bool.eq_iff_iff]; simp
   rw [e]
   cases decide (idxT l (i : Int) ≥ 0) with
   | true => rfl
   | false => exact cond_t rfl (bind_eq (refflush_eq _ (by omega)) (by simp [bne]))
  ·cases decide (idxT l (i : Int) ≥ 0) || (flu l (i : Int) != 65535) <;> rfl
 intro k
 induction k with
 | zero =>
  intro fuel i hi e hk
  obtain ⟨f, rfl⟩ : ∃ f, fuel = f + 1 := ⟨fuel - 1, by omega⟩
  obtain rfl : i = n := by omega
  exact ⟨loop_done (by rw [hb, h0]; rfl), loop_done (by rw [hr i hn, h0]; rfl)⟩
 | succ k ih =>
  intro fuel i hi e hk
  obtain ⟨f, rfl⟩ : ∃ f, fuel = f + 1 := ⟨fuel - 1, by omega⟩
  obtain ⟨i1, i2⟩ := ih f (i + 1) (by omega) (by omega) (by omega)
  have ht := hm i hi (by omega)
  exact ⟨loop_next (by rw [hb, ht, cond_true, w_succ (by omega)]) i1, loop_next (by rw [hr i (by omega), ht, cond_true, w_succ (by omega)]) i2⟩
theorem free_both {l : List api_Call} (h : CV l) (hl : l.length ≤ 1000) : ∃ n : Nat, 1 ≤ n ∧ n ≤ 2001 ∧ freeT l (n : Int) ∧ rpc_free l = some (n : Int) ∧ ref38_tag l = some (n : Int) := by
 have hB : BIG = 18446744073709551616 := rfl
 obtain ⟨n, h1, h2, h3, h4⟩ := free_ex hl
 obtain ⟨a, b⟩ := free_loop hl h2 h3 h4 (n - 1) BIG 1 (Nat.le_refl _) (by omega) (by omega)
 refine ⟨n, h1, h2, ?_, bind_eq a rfl, bind_eq b rfl⟩
 unfold takenB at h3
 rw [Bool.or_eq_false_iff] at h3
 refine ⟨fun x hx e => ?_, fun x hx => ?_⟩
 ·rcases idx_find l (n : Int) with ⟨q1, _⟩ | ⟨i, y, _, q2, _⟩
  ·exact List.find?_eq_none.1 q1 x hx (by simpa [hasT] using e)
  ·rw [q2] at h3; exact absurd h3.1 (by simp)
 ·cases hb : isFl (n : Int) x with
  | false => rfl
  | true =>
   have e := flu_some h.one hx hb
   have h5 : flu l (n : Int) = 65535 := by simpa using h3.2
   rw [h5] at e
   exact absurd e.symm (h.not_no hx (by rw [(isFl_iff.1 hb).1]; decide))
theorem put_chk {m : api_Msg} {s : Str} (h : wire_Put m = some (s, 0)) (hs : m.ok) : chkB m = true := by
 obtain ⟨c, hc⟩ := check_some m hs.small
 unfold wire_Put at h
 rw [hc, Option.bind_some] at h
 unfold chkB
 rw [hc]
 by_cases h0 : c = 0
 ·subst h0; rfl
 ·rw [show (c != 0) = true by simpa using h0] at h
  simp only [cond_true, Option.some.injEq, Prod.mk.injEq] at h
  exact absurd h.2 h0
def withTag (m : api_Msg) (n : Int) : api_Msg := api_Msg.mk m.Kind_ n m.Fid_ m.NewFid_ m.AuthFid_ m.OldTag_ m.Msize_ m.Version_ m.User_ m.Attach_ m.Names_ m.Qids_ m.Qid_ m.Iounit_ m.Mode_ m.Perm_ m.Name_ m.Offset_ m.Count_ m.Data_ m.Stat_ m.Err_ m.Lease_ m.Term_ m.Session_
theorem withTag_ok {m : api_Msg} (h : m.ok) (n : Int) : (withTag m n).ok := ⟨h.small, h.qids, h.qid⟩
def setCalls (c : api_Client) (l : List api_Call) : api_Client := ⟨c.Up_, c.Msize_, c.Session_, c.Fids_, l, c.Partial_⟩
theorem start_both {c : api_Client} {m : api_Msg} (hg : G c) (hr : RP c) (hm : m.ok) (hz : Sz m) : ∃ v, rpc_Start c m = some v ∧ ref38_Start c m = some v ∧ RP v.1 ∧ G v.1 := by
 have hl := hg.calls
 have ho := own_eq hg.szc
 unfold rpc_Start ref38_Start
 cases hu : c.Up_ with
 | false => exact ⟨_, bind_eq ho (cond_t rfl rfl), cond_t rfl rfl, hr, hg⟩
 | true =>
  cases h1 : (!(reqB m.Kind_)) || (m.Kind_ == 108) with
  | true => exact ⟨_, bind_eq ho (cond_f rfl (bind_eq (request_eq _) (cond_t h1 rfl))), cond_f rfl (bind_eq (refrequest_eq _) (cond_t h1 rfl)), hr, hg⟩
  | false =>
   have hv := hasVersion_eq (l := c.Calls_) (by omega)
   have hi := ver_idx hr.cv
   cases h2 : (c.Calls_.any fun x => x.Req_.Kind_ == 100) || ((m.Kind_ == 100) && (decide ((c.Calls_.length : Int) > 0))) with
   | true => exact ⟨_, bind_eq ho (cond_f rfl (bind_eq (request_eq _) (cond_f h1 (bind_eq hv (cond_t h2 rfl))))), cond_f rfl (bind_eq (refrequest_eq _) (cond_f h1 (bind_eq (refindex_eq _ (by omega)) (cond_t (by rw [hi]; exact h2) rfl)))), hr, hg⟩
   | false =>
    cases h3 : decide ((c.Calls_.length : Int) ≥ 64) with
    | true => exact ⟨_, bind_eq ho (cond_f rfl (bind_eq (request_eq _) (cond_f h1 (bind_eq hv (cond_f h2 (cond_t rfl rfl)))))), cond_f rfl (bind_eq (refrequest_eq _) (cond_f h1 (bind_eq (refindex_eq _ (by omega)) (cond_f (by rw [hi]; exact h2) (cond_t rfl rfl))))), hr, hg⟩
    | false =>
     obtain ⟨n, n1, n2, nf, f1, f2⟩ := free_both hr.cv hl
     rw [Bool.or_eq_false_iff] at h1 h2
     have hlt : c.Calls_.length < 64 := by simp only [decide_eq_false_iff_not] at h3; omega
     have hreq : reqB m.Kind_ = true := by simpa using h1.1
     have h108 : m.Kind_ ≠ 108 := by simpa using h1.2
     have hv0 : ∀ x ∈ c.Calls_, x.Req_.Kind_ ≠ 100 := fun x hx => by simpa using List.any_eq_false.1 h2.1 x hx
     -- whatever tag it gets
     have go : ∀ t : Int, (m.Kind_ = 100 → c.Calls_ = []) → (m.Kind_ ≠ 100 → 1 ≤ t ∧ freeT c.Calls_ t) → ∃ v : api_Client × Int × Str × Int,
       (Option.bind (rpc_encoded c (withTag m t)) fun (y6 : Str × Int) => (bif (y6.2 != 0) then some ((c, 0, [], y6.2)) else Option.bind (room 432 c.Calls_ [(api_Call.mk (withTag m t) 65535)]) fun (y7 : List api_Call) => some ((api_Client.mk c.Up_ c.Msize_ c.Session_ c.Fids_ y7 c.Partial_), t, y6.1, 0))) = some v ∧
       (Option.bind (ref09_Put (withTag m t)) fun (y4 : Str × Int) => (bif (y4.2 != 0) then some ((c, 0, [], y4.2)) else (bif ((c.Msize_ != 0) && (decide ((y4.1.length : Int) > c.Msize_))) then some ((c, 0, [], 19)) else Option.bind (ref38_added c (withTag m t)) fun (y5 : api_Client) => some ((y5, (withTag m t).Tag_, y4.1, 0))))) = some v ∧ RP v.1 ∧ G v.1 := by
      intro t q1 q2
      have hmo := withTag_ok hm t
      obtain ⟨⟨s, e⟩, p1, p2⟩ := put_both (withTag m t) hmo
      unfold rpc_encoded
      by_cases he : e = 0
      ·subst he
       cases h4 : (c.Msize_ != 0) && (decide ((s.length : Int) > c.Msize_)) with
       | true => exact ⟨_, bind_eq (a := ([], 19)) (bind_eq p1 (cond_f rfl (cond_t h4 rfl))) (cond_t rfl rfl), bind_eq p2 (cond_f rfl (cond_t h4 rfl)), hr, hg⟩
       | false =>
        have hc := put_chk p1 hmo
        have hcv : CV (c.Calls_ ++ [⟨withTag m t, 65535⟩]) := hr.cv.add h108 hreq hc hv0 q1 q2
        refine ⟨(setCalls c (c.Calls_ ++ [⟨withTag m t, 65535⟩]), t, s, 0), bind_eq (a := (s, 0)) (bind_eq p1 (cond_f rfl (cond_f h4 rfl))) (cond_f rfl (bind_eq (room_eq (by simp; omega) (by simp; omega)) rfl)), bind_eq p2 (cond_f rfl (cond_f h4 (bind_eq (a := setCalls c (c.Calls_ ++ [⟨withTag m t, 65535⟩])) ?_ rfl))), hr.calls hu (by simp; omega) hcv, ?_⟩
        ·unfold ref38_added
         exact bind_eq (room_eq (by simp; omega) (by simp; omega)) (bind_eq (room_eq (by simp; omega) (by simp; omega)) rfl)
        ·refine ⟨by show (c.Calls_ ++ [_]).length ≤ 1000; simp; omega, hg.fids, hg.part, fun x hx => ?_⟩
         rcases List.mem_append.1 (show x ∈ c.Calls_ ++ [⟨withTag m t, 65535⟩] from hx) with h5 | h5
         ·exact hg.each x h5
         ·rw [List.mem_singleton.1 h5]; exact ⟨hz, hmo⟩
      ·have he' : (e != 0) = true := by simpa using he
       exact ⟨_, bind_eq (a := ([], e)) (bind_eq p1 (cond_t he' rfl)) (cond_t he' rfl), bind_eq p2 (cond_t he' rfl), hr, hg⟩
     cases h5 : m.Kind_ == 100 with
     | true =>
      have hk : m.Kind_ = 100 := by simpa using h5
      have h0 : c.Calls_ = [] := by
       have := h2.2
       rw [h5, Bool.true_and] at this
       simp only [decide_eq_false_iff_not] at this
       exact List.length_eq_zero_iff.1 (by omega)
      obtain ⟨v, g1, g2, g3⟩ := go 65535 (fun _ => h0) (fun h => absurd hk h)
      have h2' : ((c.Calls_.any fun x => x.Req_.Kind_ == 100) || (true && (decide ((c.Calls_.length : Int) > 0)))) = false := by rw [h2.1, h0]; rfl
      have h1' : ((!(reqB m.Kind_)) || (m.Kind_ == 108)) = false := by rw [Bool.or_eq_false_iff]; exact h1
      refine ⟨v, bind_eq ho (cond_f rfl (bind_eq (request_eq _) (cond_f h1' (bind_eq hv (cond_f h2' (cond_f rfl (bind_eq (clone_msg hz) (bind_eq rfl g1)))))))), cond_f rfl (bind_eq (refrequest_eq _) (cond_f h1' (bind_eq (refindex_eq _ (by omega)) (cond_f (by rw [hi]; exact h2') (cond_f rfl (bind_eq f2 (bind_eq rfl g2))))))), g3⟩
     | false =>
      obtain ⟨v, g1, g2, g3⟩ := go (n : Int) (fun h => absurd h (by simpa using h5)) (fun _ => ⟨by omega, nf⟩)
      have h2' : ((c.Calls_.any fun x => x.Req_.Kind_ == 100) || (false && (decide ((c.Calls_.length : Int) > 0)))) = false := by rw [h2.1]; rfl
      have h1' : ((!(reqB m.Kind_)) || (m.Kind_ == 108)) = false := by rw [Bool.or_eq_false_iff]; exact h1
      refine ⟨v, bind_eq ho (cond_f rfl (bind_eq (request_eq _) (cond_f h1' (bind_eq hv (cond_f h2' (cond_f rfl (bind_eq (clone_msg hz) (bind_eq (cond_t rfl (bind_eq f1 rfl)) g1)))))))), cond_f rfl (bind_eq (refrequest_eq _) (cond_f h1' (bind_eq (refindex_eq _ (by omega)) (cond_f (by rw [hi]; exact h2') (cond_f rfl (bind_eq f2 (bind_eq rfl g2))))))), g3⟩
end Go.Proofs.YtolgkhjkdadhiaaGreat
namespace Go.Proofs.YtolgkhjkdadhiaaGreat
open Go.Rt Go.RowKit
def flushM (n t : Int) : api_Msg := api_Msg.mk 108 n 0 0 0 t 0 [] [] [] [] [] (api_Qid.mk 0 0 0) 0 0 0 [] 0 0 [] (api_Dir.mk 0 0 (api_Qid.mk 0 0 0) 0 0 0 0 [] [] [] []) 0 0 0 []
theorem zqid_ok : (api_Qid.mk 0 0 0).ok := by unfold api_Qid.ok InK; decide
theorem zdir_ok : zeroDir.ok := by
 refine ⟨?_, ?_, zqid_ok, ?_, ?_, ?_, ?_, Nat.zero_le _, Nat.zero_le _, Nat.zero_le _, Nat.zero_le _⟩ <;> (unfold InK; decide)
theorem flushM_ok (n t : Int) : (flushM n t).ok := ⟨⟨Nat.zero_le _, (fun _ h => nomatch h), Nat.zero_le _, Nat.zero_le _, zdir_ok⟩, (fun _ h => nomatch h), zqid_ok⟩
theorem flushM_chk {n t : Int} (h0 : 0 ≤ n) (h1 : n ≤ 65534) (t0 : 0 ≤ t) (t1 : t ≤ 65534) : msg_Check (flushM n t) = some 0 := by
 have e2 : msg_tagged (flushM n t) = some true := by
  show some ((decide (n ≥ 0)) && (decide (n ≤ 65534))) = some true
  simp [h0, h1]
 have e := check_in (flushM n t) (flushM_ok n t) [.o] ((msg_Name 108).getD []) true rfl e2 rfl (fun hz => ff_108 (flushM n t) rfl (flushM_ok n t) hz)
 rw [e]
 show some (firstF [.o] (flushM n t)) = some 0
 rw [firstF_one]
 show some (inR t 0 65534) = some 0
 unfold inR
 rw [if_pos ⟨t0, t1⟩]
theorem reqB_108 : reqB 108 = true := by decide
theorem find_get {l : List api_Call} (t : Int) : (l.find? (hasT t) = none ∧ idxT l t = -1 ∧ ∀ x ∈ l, x.Req_.Tag_ ≠ t) ∨ ∃ (i : Nat) (x : api_Call), l.find? (hasT t) = some x ∧ idxT l t = (i : Int) ∧ l[i]? = some x ∧ x.Req_.Tag_ = t := by
 rcases idx_find l t with ⟨h1, h2⟩ | h
 ·exact .inl ⟨h1, h2, fun x hx e => List.find?_eq_none.1 h1 x hx (by simpa [hasT] using e)⟩
 ·exact .inr h
theorem flush_both {c : api_Client} (t : Int) (hg : G c) (hr : RP c) : ∃ v, rpc_Flush c t = some v ∧ ref38_Flush c t = some v ∧ RP v.1 ∧ G v.1 ∧
  (v.2.2.2 = 0 → ∃ (i : Nat) (x : api_Call) (n : Nat), c.Up_ = true ∧ c.Calls_[i]? = some x ∧ x.Req_.Tag_ = t ∧ x.Req_.Kind_ ≠ 100 ∧ x.Req_.Kind_ ≠ 108 ∧ 1 ≤ n ∧ n ≤ 2001 ∧ freeT c.Calls_ (n : Int) ∧ v.1 = setCalls c (c.Calls_.set i ⟨x.Req_, (n : Int)⟩ ++ [⟨flushM (n : Int) t, 65535⟩]) ∧ v.2.1 = (n : Int)) := by
 have hl := hg.calls
 have ho := own_eq hg.szc
 have hi := index_eq (l := c.Calls_) t (by omega)
 have hir := refindex_eq (l := c.Calls_) t (by omega)
 unfold rpc_Flush ref38_Flush
 cases hu : c.Up_ with
 | false => exact ⟨(c, 0, [], 30), bind_eq ho (bind_eq hi (cond_t rfl rfl)), cond_t rfl rfl, hr, hg, fun h => absurd (show (30 : Int) = 0 from h) (by decide)⟩
 | true =>
  rcases find_get (l := c.Calls_) t with ⟨_, h1, _⟩ | ⟨i, x, _, h1, h2, h3⟩
  ·have e : decide (idxT c.Calls_ t < 0) = true := by rw [h1]; rfl
   exact ⟨(c, 0, [], 17), bind_eq ho (bind_eq hi (cond_f rfl (bind_eq (cond_t e rfl) (bind_eq rfl (cond_t rfl rfl))))), cond_f rfl (bind_eq hir (bind_eq (cond_t e rfl) (bind_eq rfl (cond_t rfl rfl)))), hr, hg, fun h => absurd (show (17 : Int) = 0 from h) (by decide)⟩
  ·have e : decide (idxT c.Calls_ t < 0) = false := by rw [h1]; simp
   have g : getI c.Calls_ (idxT c.Calls_ t) = some x := by rw [h1, getI_nat, h2]
   have hx := List.mem_of_getElem? h2
   by_cases hk : x.Req_.Kind_ = 108 ∨ x.Req_.Kind_ = 100
   ·refine ⟨(c, 0, [], 17), ?_, ?_, hr, hg, fun h => absurd (show (17 : Int) = 0 from h) (by decide)⟩
    ·refine bind_eq ho (bind_eq hi (cond_f rfl (bind_eq (a := x.Req_.Kind_ == 108) (cond_f e (bind_eq g rfl)) (bind_eq (a := true) ?_ (cond_t rfl rfl)))))
     cases hk8 : x.Req_.Kind_ == 108 with
     | true => rfl
     | false => exact cond_f rfl (bind_eq g (by rcases hk with hk | hk <;> simp_all))
    ·refine cond_f rfl (bind_eq hir (bind_eq (a := x.Req_.Kind_ == 108) (cond_f e (bind_eq g rfl)) (bind_eq (a := true) ?_ (cond_t rfl rfl))))
     cases hk8 : x.Req_.Kind_ == 108 with
     | true => rfl
     | false => exact cond_f rfl (bind_eq g (by rcases hk with hk | hk <;> simp_all))
   ·have k8 : x.Req_.Kind_ ≠ 108 := fun h => hk (.inl h)
    have k0 : x.Req_.Kind_ ≠ 100 := fun h => hk (.inr h)
    have e8 : (x.Req_.Kind_ == 108) = false := by simpa using k8
    have e0 : (x.Req_.Kind_ == 100) = false := by simpa using k0
    have a1 : (bif decide (idxT c.Calls_ t < 0) then some true else Option.bind (getI c.Calls_ (idxT c.Calls_ t)) fun (y3 : api_Call) => some (y3.Req_.Kind_ == 108)) = some false := cond_f e (bind_eq g (by rw [e8]))
    have a2 : (bif false then some true else Option.bind (getI c.Calls_ (idxT c.Calls_ t)) fun (y5 : api_Call) => some (y5.Req_.Kind_ == 100)) = some false := cond_f rfl (bind_eq g (by rw [e0]))
    cases hf : x.Flush_ != 65535 with
    | true =>
     exact ⟨(c, 0, [], 56), bind_eq ho (bind_eq hi (cond_f rfl (bind_eq a1 (bind_eq a2 (cond_f rfl (bind_eq g (cond_t hf rfl))))))), cond_f rfl (bind_eq hir (bind_eq a1 (bind_eq a2 (cond_f rfl (bind_eq g (cond_t hf rfl)))))), hr, hg, fun h => absurd (show (56 : Int) = 0 from h) (by decide)⟩
    | false =>
     cases h64 : decide ((c.Calls_.length : Int) ≥ 64) with
     | true =>
      exact ⟨(c, 0, [], 22), bind_eq ho (bind_eq hi (cond_f rfl (bind_eq a1 (bind_eq a2 (cond_f rfl (bind_eq g (cond_f hf (cond_t rfl rfl)))))))), cond_f rfl (bind_eq hir (bind_eq a1 (bind_eq a2 (cond_f rfl (bind_eq g (cond_f hf (cond_t rfl rfl))))))), hr, hg, fun h => absurd (show (22 : Int) = 0 from h) (by decide)⟩
     | false =>
      obtain ⟨n, n1, n2, nf, f1, f2⟩ := free_both hr.cv hl
      have hlt : c.Calls_.length < 64 := by simp only [decide_eq_false_iff_not] at h64; omega
      have hfl : x.Flush_ = 65535 := by simpa using hf
      obtain ⟨c1, c2⟩ := hr.cv.each x hx
      have ht := (chk_tag c1 c2).2 k0
      rw [h3] at ht
      obtain ⟨⟨s, e1⟩, p1, p2⟩ := put_both (flushM (n : Int) t) (flushM_ok _ _)
      have hc : chkB (flushM (n : Int) t) = true := by
       unfold chkB
       rw [flushM_chk (by omega) (by omega) ht.1 ht.2]; rfl
      have hall : ∀ y ∈ c.Calls_, y.Req_.Tag_ ≠ 65535 := fun y hy => by
       refine hr.cv.not_no hy fun k => ?_
       have h5 := (hr.cv.ver y hy k).1
       obtain ⟨j, hj⟩ := List.mem_iff_getElem?.1 hy
       have a := (List.getElem?_eq_some_iff.1 h2).1
       have b := (List.getElem?_eq_some_iff.1 hj).1
       have : i = j := by omega
       subst this
       obtain rfl := Option.some.inj (h2.symm.trans hj)
       exact k0 k
      have hcv : CV (c.Calls_.set i ⟨x.Req_, (n : Int)⟩ ++ [⟨flushM (n : Int) t, 65535⟩]) := hr.cv.flush h2 k0 k8 hfl hall (m := flushM (n : Int) t) rfl h3.symm reqB_108 hc (by show (1 : Int) ≤ (n : Int); omega) nf
      have hit : (idxT c.Calls_ t).toNat = i := by rw [h1]; rfl
      have hilt := (List.getElem?_eq_some_iff.1 h2).1
      refine ⟨(setCalls c (c.Calls_.set i ⟨x.Req_, (n : Int)⟩ ++ [⟨flushM (n : Int) t, 65535⟩]), (n : Int), s, 0), bind_eq ho (bind_eq hi (cond_f rfl (bind_eq a1 (bind_eq a2 (cond_f rfl (bind_eq g (cond_f hf (cond_f rfl (bind_eq f1 (bind_eq p1 (bind_eq g (bind_eq (a := c.Calls_.set i ⟨x.Req_, (n : Int)⟩ ++ [⟨flushM (n : Int) t, 65535⟩]) ?_ rfl)))))))))))), cond_f rfl (bind_eq hir (bind_eq a1 (bind_eq a2 (cond_f rfl (bind_eq g (cond_f hf (cond_f rfl (bind_eq f2 (bind_eq (a := setCalls c (c.Calls_ ++ [⟨flushM (n : Int) t, 65535⟩])) ?_ (bind_eq (a := x) ?_ (bind_eq p2 ?_))))))))))), hr.calls hu (by simp; omega) hcv, ?_, fun _ => ⟨i, x, n, rfl, h2, h3, k0, k8, n1, n2, nf, rfl, rfl⟩⟩
      ·rw [hit]
       exact room_eq (by simp; omega) (by simp; omega)
      ·unfold ref38_added
       exact bind_eq (room_eq (by simp; omega) (by simp; omega)) (bind_eq (room_eq (by simp; omega) (by simp; omega)) rfl)
      ·show getI (c.Calls_ ++ [⟨flushM (n : Int) t, 65535⟩]) (idxT c.Calls_ t) = some x
       rw [h1, getI_nat, List.getElem?_append_left hilt, h2]
      ·rw [hit]
       show some (setCalls c ((c.Calls_ ++ [(⟨flushM (n : Int) t, 65535⟩ : api_Call)]).set i ⟨x.Req_, (n : Int)⟩), (n : Int), s, (0 : Int)) = _
       rw [List.set_append_left _ _ hilt]
      ·refine ⟨by show (c.Calls_.set i _ ++ [_]).length ≤ 1000; simp; omega, hg.fids, hg.part, fun y hy => ?_⟩
       rcases List.mem_append.1 (show y ∈ c.Calls_.set i ⟨x.Req_, (n : Int)⟩ ++ [⟨flushM (n : Int) t, 65535⟩] from hy) with h5 | h5
       ·rcases mem_set hr.cv.nd h2 h5 with rfl | ⟨h6, _⟩
        ·exact hg.each x hx
        ·exact hg.each y h6
       ·rw [List.mem_singleton.1 h5]
        exact ⟨⟨Nat.zero_le _, Nat.zero_le _⟩, flushM_ok _ _⟩
def loseC (c : api_Client) : api_Client := ⟨false, 0, c.Session_, c.Fids_, [], []⟩
def loseM (c : api_Client) : List api_Msg := c.Calls_.map fun x => failM x.Req_ 30
theorem lose_eq {c : api_Client} (h : SzC c) (hu : c.Up_ = true) : rpc_Lose c = some (loseC c, loseM c) ∧ ref38_Lose c = some (loseC c, loseM c) := by
 have h1 := h.calls
 constructor
 ·unfold rpc_Lose
  refine bind_eq (own_eq h) (cond_f (by rw [hu]; rfl) (bind_eq (loop_app (body := rpc_Lose_L1 c) c.Calls_ (fun x => failM x.Req_ 30) (by omega) (fun i s hi hs => ?_) fun s => ?_) rfl))
  ·unfold rpc_Lose_L1
   refine cond_t (by simp; omega) (bind_eq (getI_lt hi) (bind_eq (fail_eq _ _) (bind_eq (room_eq (by simp; omega) (by simp; omega)) ?_)))
   rw [w_succ (by omega)]
  ·unfold rpc_Lose_L1
   exact cond_f (by simp) rfl
 ·unfold ref38_Lose
  refine cond_f (by rw [hu]; rfl) (bind_eq (loop_app (body := ref38_Lose_L1 c) c.Calls_ (fun x => failM x.Req_ 30) (by omega) (fun i s hi hs => ?_) fun s => ?_) rfl)
  ·unfold ref38_Lose_L1
   refine cond_t (by simp; omega) (bind_eq (getI_lt hi) (bind_eq (reffail_eq _ _) (bind_eq (room_eq (by simp; omega) (by simp; omega)) ?_)))
   rw [w_succ (by omega)]
  ·unfold ref38_Lose_L1
   exact cond_f (by simp) rfl
theorem spl_nil : wire_Split [] 0 = some ([], [], 0) := split_spl (by simp) (.stop rfl)
theorem lose_rp {c : api_Client} (h : RP c) : RP (loseC c) :=
 ⟨rfl, h.sess, h.fl, h.fids, Nat.zero_le _, .nil, decide_eq_true spl_nil, .inr ⟨rfl, rfl⟩⟩
theorem lose_g {c : api_Client} (h : G c) : G (loseC c) := ⟨Nat.zero_le _, h.fids, Nat.zero_le _, (fun _ h => nomatch h)⟩
theorem same_self {c : api_Client} (h : SzC c) : ref38_Same c c = some true := by
 have hB : BIG = 18446744073709551616 := rfl
 have h1 := h.calls
 have h2 := h.fids
 have e : ∀ {α : Type} (l : List α), l.findSome? (fun _ => (none : Option Bool)) = none := by intro α l; simp
 unfold ref38_Same
 refine cond_f (by simp) (bind_eq (loop_all3 c.Fids_ (fun _ => none) (by omega) (fun i hi => ?_) ?_) ?_)
 ·unfold ref38_Same_L1
  refine cond_t (lt_t hi) (bind_eq (getI_lt hi) (bind_eq (getI_lt hi) (cond_f (by simp) ?_)))
  rw [w_succ (by omega)]
 ·unfold ref38_Same_L1
  exact cond_f (lt_f _) rfl
 ·rw [e]
  refine bind_eq (loop_all3 c.Calls_ (fun _ => none) (by omega) (fun i hi => ?_) ?_) (by rw [e])
  ·unfold ref38_Same_L2
   have hz := h.each _ (List.getElem_mem hi)
   refine cond_t (lt_t hi) (bind_eq (getI_lt hi) (bind_eq (getI_lt hi) (bind_eq (a := false) (cond_f (by simp) (bind_eq (getI_lt hi) (bind_eq (getI_lt hi) (bind_eq (msg_same _ (by have := hz.1; omega) (by have := hz.2; omega)) rfl)))) (cond_f rfl ?_))))
   rw [w_succ (by omega)]
  ·unfold ref38_Same_L2
   exact cond_f (lt_f _) rfl
theorem sameMsgs_self {l : List api_Msg} (hl : l.length ≤ 1000000) (h : ∀ m ∈ l, m.Names_.length ≤ 9223372036854775807 ∧ m.Qids_.length ≤ 9223372036854775807) : ref38_SameMsgs l l = some true := by
 have hB : BIG = 18446744073709551616 := rfl
 have e : ∀ {α : Type} (l : List α), l.findSome? (fun _ => (none : Option Bool)) = none := by intro α l; simp
 unfold ref38_SameMsgs
 refine cond_f (by simp) (bind_eq (loop_all3 l (fun _ => none) (by omega) (fun i hi => ?_) ?_) (by rw [e]))
 ·unfold ref38_SameMsgs_L1
  have hm := h _ (List.getElem_mem hi)
  refine cond_t (lt_t hi) (bind_eq (getI_lt hi) (bind_eq (getI_lt hi) (bind_eq (msg_same _ hm.1 hm.2) (cond_f rfl ?_))))
  rw [w_succ (by omega)]
 ·unfold ref38_SameMsgs_L1
  exact cond_f (lt_f _) rfl
end Go.Proofs.YtolgkhjkdadhiaaGreat
namespace Go.Proofs.YtolgkhjkdadhiaaGreat
open Go.Rt Go.RowKit
def ansB (x m : api_Msg) : Bool := (msg_Answers x m).getD false
theorem ans_eq (x m : api_Msg) : msg_Answers x m = some (ansB x m) ∧ ref08_Answers x m = some (ansB x m) := by
 obtain ⟨b, h1, h2⟩ := answers_eq x m
 have : ansB x m = b := by unfold ansB; rw [h1]; rfl
 rw [this]; exact ⟨h1, h2⟩
theorem ans_flush {x m : api_Msg} (hk : x.Kind_ = 108) (h : ansB x m = true) : m.Kind_ = 107 ∨ m.Kind_ = 109 := by
 have he := (ans_eq x m).1
 rw [h] at he
 unfold msg_Answers msg_Reply at he
 rw [request_eq, hk] at he
 have hr : reqB 108 = true := reqB_108
 rw [hr] at he
 cases ht : x.Tag_ != m.Tag_ with
 | true => rw [ht] at he; cases he
 | false =>
  rw [ht] at he
  cases h7 : m.Kind_ == 107 with
  | true => exact .inl (by simpa using h7)
  | false =>
   rw [h7] at he
   have he : (bif m.Kind_ != w64 (108 + 1) then some false else _) = some true := he
   cases h9 : m.Kind_ != w64 (108 + 1) with
   | true => rw [h9] at he; cases he
   | false => exact .inr (by simpa [w64_eq (n := 109) ⟨by decide, by decide⟩] using h9)
def newV (m : api_Msg) : Bool := (m.Kind_ == 101) && (!(m.Version_ == [117, 110, 107, 110, 111, 119, 110]))
def badV (x m : api_Msg) : Bool := ((decide (m.Msize_ < 256)) || (decide (m.Msize_ > x.Msize_))) || (decide (m.Msize_ > 8192))
theorem verError_eq (x m : api_Msg) : rpc_versionError x m = some (bif newV m && badV x m then 19 else 0) := by
 unfold rpc_versionError
 have e : ((m.Kind_ != 101) || (m.Version_ == [117, 110, 107, 110, 111, 119, 110])) = !(newV m) := by
  unfold newV; rw [bne, Bool.not_and, Bool.not_not]
 rw [e]
 cases newV m with
 | false => rfl
 | true =>
  refine cond_f rfl ?_
  show (bif badV x m then _ else _) = _
  cases badV x m <;> rfl
def flOut (l : List api_Call) (x m : api_Msg) : List api_Call × List api_Msg :=
 bif x.Kind_ == 108 then match l.find? (hasT x.OldTag_) with
  | none => (l, [])
  | some z => bif m.Kind_ == 109 then (l.eraseIdx (idxT l x.OldTag_).toNat, [failM z.Req_ 56]) else (l.set (idxT l x.OldTag_).toNat ⟨z.Req_, 65535⟩, [])
 else (l, [])
abbrev TS := Int × Str × List api_Call × List api_Msg
def takeS (ms : Int) (se : Str) (l : List api_Call) (m : api_Msg) : Int ⊕ TS :=
 match l.find? (hasT m.Tag_) with
 | none => .inl 17
 | some x => bif !(ansB x.Req_ m) then .inl 2 else bif newV m && badV x.Req_ m then .inl 19 else
  .inr (bif newV m then m.Msize_ else ms, bif newV m then m.Session_ else se, (flOut (l.eraseIdx (idxT l m.Tag_).toNat) x.Req_ m).1, (flOut (l.eraseIdx (idxT l m.Tag_).toNat) x.Req_ m).2 ++ [m])
theorem take_err {ms : Int} {se : Str} {l : List api_Call} {m : api_Msg} {e : Int} (h : takeS ms se l m = .inl e) : e ≠ 0 := by
 unfold takeS at h
 split at h
 ·injection h with h; omega
 ·rename_i x _
  cases ha : ansB x.Req_ m with
  | false => rw [ha] at h; injection (show (Sum.inl 2 : Int ⊕ TS) = Sum.inl e from h) with h; omega
  | true =>
   cases hb : newV m && badV x.Req_ m with
   | true => rw [ha, hb] at h; injection (show (Sum.inl 19 : Int ⊕ TS) = Sum.inl e from h) with h; omega
   | false => rw [ha, hb] at h; cases h
theorem erase_td {α : Type} (l : List α) (i : Nat) : l.take i ++ l.drop (i + 1) = l.eraseIdx i := by rw [List.eraseIdx_eq_take_drop_succ]
theorem del_call {l : List api_Call} {i : Nat} (h : i < l.length) (hl : l.length ≤ 1000000) : delN (α := api_Call) l (i : Int) (w64 ((i : Int) + 1)) = some (l.eraseIdx i) := by
 rw [w_succ (by omega), delN_one h, erase_td]
theorem prog_body (p : List api_Msg × Str × Int) (e : Int) (i : Nat) (hi : i < p.1.length) (hil : i ≤ 1000000) (up : Bool) (ms : Int) (se part : Str) (fids : List Int) (l : List api_Call) (acc : List api_Msg) (hl : l.length ≤ 1000) (ha : acc.length ≤ 100000) :
  rpc_Receive_L1 p (e, (i : Int), up, ms, se, part, fids, l, acc) = some (match takeS ms se l p.1[i] with
   | .inl e' => .done (e', up, ms, se, part, fids, l, acc)
   | .inr t => .next (0, ((i + 1 : Nat) : Int), up, t.1, t.2.1, part, fids, t.2.2.1, acc ++ t.2.2.2)) := by
 unfold rpc_Receive_L1
 refine cond_t (lt_t hi) (bind_eq (getI_lt hi) ?_)
 generalize p.1[i] = m
 refine bind_eq (index_eq (l := l) _ (by omega)) ?_
 unfold takeS
 rcases find_get (l := l) m.Tag_ with ⟨h0, h1, _⟩ | ⟨k, x, h0, h1, h2, h3⟩
 ·rw [h0, h1]; rfl
 ·rw [h0, h1]
  dsimp only
  have hk := (List.getElem?_eq_some_iff.1 h2).1
  have g : getI l (k : Int) = some x := by rw [getI_nat, h2]
  refine cond_f (by simp) (bind_eq g (bind_eq (ans_eq _ _).1 ?_))
  cases ha0 : ansB x.Req_ m with
  | false => rfl
  | true =>
   refine cond_f rfl (bind_eq (verError_eq _ _) ?_)
   cases hv : newV m && badV x.Req_ m with
   | true => rfl
   | false =>
    refine cond_f rfl (bind_eq g (bind_eq (del_call hk (by omega)) ?_))
    show _ = some (Step.next (0, ((i + 1 : Nat) : Int), up, (bif newV m then m.Msize_ else ms), (bif newV m then m.Session_ else se), part, fids, (flOut (l.eraseIdx k) x.Req_ m).1, acc ++ ((flOut (l.eraseIdx k) x.Req_ m).2 ++ [m])))
    have hle : (l.eraseIdx k).length ≤ l.length := (List.eraseIdx_sublist l k).length_le
    generalize l.eraseIdx k = l1 at hle
    refine bind_eq (a := (up, (bif newV m then m.Msize_ else ms), (bif newV m then m.Session_ else se), part, fids, l1, acc)) ?_ ?_
    ·show (bif newV m then _ else _) = _
     cases newV m <;> rfl
    refine bind_eq (a := (up, (bif newV m then m.Msize_ else ms), (bif newV m then m.Session_ else se), part, fids, (flOut l1 x.Req_ m).1, acc ++ (flOut l1 x.Req_ m).2)) ?_ ?_
    ·unfold flOut
     cases hk8 : x.Req_.Kind_ == 108 with
     | false => rw [cond_false, cond_false, List.append_nil]
     | true =>
      rw [cond_true, cond_true]
      refine bind_eq (index_eq (l := l1) _ (by omega)) ?_
      rcases find_get (l := l1) x.Req_.OldTag_ with ⟨q0, q1, _⟩ | ⟨j, z, q0, q1, q2, _⟩
      ·rw [q0, q1]
       exact cond_f rfl (by rw [List.append_nil])
      ·rw [q0, q1]
       have hj := (List.getElem?_eq_some_iff.1 q2).1
       have gj : getI l1 (j : Int) = some z := by rw [getI_nat, q2]
       refine cond_t (by simp) ?_
       have hd := del_call hj (by omega)
       have hr : room 424 acc [failM z.Req_ 56] = some (acc ++ [failM z.Req_ 56]) := room_eq (by simp; omega) (by simp; omega)
       cases hk9 : m.Kind_ == 109 with
       | true =>
        rw [cond_true]
        refine Eq.trans (congr (congrArg both (?_ : _ = some (up, (bif newV m then m.Msize_ else ms), (bif newV m then m.Session_ else se), part, fids, l1.eraseIdx j, acc ++ [failM z.Req_ 56]))) ?_) (both_self _)
        ·exact bind_eq gj (bind_eq hd (bind_eq (fail_eq _ _) (bind_eq hr rfl)))
        ·refine bind_eq gj (bind_eq hd ?_)
         refine Eq.trans (congr (congrArg both (bind_eq (fail_eq _ _) (bind_eq hr rfl))) (bind_eq (fail_eq _ _) (Eq.trans (congr (congrArg both (bind_eq hr rfl)) (bind_eq hr rfl)) (both_self _)))) (both_self _)
       | false =>
        refine cond_f rfl (bind_eq gj ?_)
        simp
    ·have hlo : (flOut l1 x.Req_ m).2.length ≤ 1 := by
      unfold flOut
      cases x.Req_.Kind_ == 108 with
      | false => exact Nat.zero_le _
      | true =>
       rw [cond_true]
       cases l1.find? (hasT x.Req_.OldTag_) with
       | none => exact Nat.zero_le _
       | some z => cases m.Kind_ == 109 <;> simp
     refine bind_eq (a := acc ++ ((flOut l1 x.Req_ m).2 ++ [m])) ?_ ?_
     ·rw [room_eq (by simp; omega) (by simp; omega), List.append_assoc]
     ·refine cond_f rfl ?_
      rw [w_succ (by omega)]
theorem prog_end (p : List api_Msg × Str × Int) (e : Int) (up : Bool) (ms : Int) (se part : Str) (fids : List Int) (l : List api_Call) (acc : List api_Msg) : rpc_Receive_L1 p (e, (p.1.length : Int), up, ms, se, part, fids, l, acc) = some (.done (e, up, ms, se, part, fids, l, acc)) := by
 unfold rpc_Receive_L1
 exact cond_f (lt_f _) rfl
theorem without_call {l : List api_Call} {i : Nat} (h : i < l.length) (hl : l.length ≤ 1000) : ref38_without l (i : Int) = some (l.eraseIdx i) := by
 unfold ref38_without
 refine bind_eq (subI_eq (by omega) (by omega) (by omega)) (bind_eq (room_eq (by simp; omega) (by simp; omega)) ?_)
 rw [w_succ (by omega)]
 refine bind_eq (subI_eq (by omega) (by omega) (by omega)) (bind_eq (a := l.eraseIdx i) ?_ rfl)
 rw [room_eq (by simp; omega) (by simp; omega), ← erase_td]
 simp
theorem take_eq (c : api_Client) (m : api_Msg) (hl : c.Calls_.length ≤ 1000) : ref38_take c m = some (match takeS c.Msize_ c.Session_ c.Calls_ m with
   | .inl e => (c, [], e)
   | .inr t => (⟨c.Up_, t.1, t.2.1, c.Fids_, t.2.2.1, c.Partial_⟩, t.2.2.2, 0)) := by
 unfold ref38_take
 refine bind_eq (refindex_eq _ (by omega)) ?_
 unfold takeS
 rcases find_get (l := c.Calls_) m.Tag_ with ⟨h0, h1, _⟩ | ⟨k, x, h0, h1, h2, h3⟩
 ·rw [h0, h1]; rfl
 ·rw [h0, h1]
  dsimp only
  have hk := (List.getElem?_eq_some_iff.1 h2).1
  have g : getI c.Calls_ (k : Int) = some x := by rw [getI_nat, h2]
  refine cond_f (by simp) (bind_eq g (bind_eq (ans_eq _ _).2 ?_))
  cases ha0 : ansB x.Req_ m with
  | false => rfl
  | true =>
   refine cond_f rfl ?_
   show Option.bind (bif newV m then (bif badV x.Req_ m then some (Out.ret (c, ([] : List api_Msg), (19 : Int))) else some (Out.fall (api_Client.mk c.Up_ m.Msize_ m.Session_ c.Fids_ c.Calls_ c.Partial_))) else some (Out.fall c)) _ = _
   cases hv : newV m && badV x.Req_ m with
   | true =>
    rw [Bool.and_eq_true] at hv
    rw [hv.1, hv.2]; rfl
   | false =>
    refine bind_eq (a := .fall ⟨c.Up_, bif newV m then m.Msize_ else c.Msize_, bif newV m then m.Session_ else c.Session_, c.Fids_, c.Calls_, c.Partial_⟩) ?_ ?_
    ·cases hn : newV m with
     | false => rfl
     | true => rw [hn, Bool.true_and] at hv; rw [hv]; rfl
    ·show Option.bind (ref38_without c.Calls_ (k : Int)) _ = some ((⟨c.Up_, bif newV m then m.Msize_ else c.Msize_, bif newV m then m.Session_ else c.Session_, c.Fids_, (flOut (c.Calls_.eraseIdx k) x.Req_ m).1, c.Partial_⟩ : api_Client), (flOut (c.Calls_.eraseIdx k) x.Req_ m).2 ++ [m], (0 : Int))
     refine bind_eq (without_call hk hl) ?_
     have hle : (c.Calls_.eraseIdx k).length ≤ c.Calls_.length := (List.eraseIdx_sublist c.Calls_ k).length_le
     generalize c.Calls_.eraseIdx k = l1 at hle
     have r1 : ∀ a : api_Msg, room 424 ([] : List api_Msg) [a] = some [a] := fun a => room_eq (by simp) (by simp)
     have r2 : ∀ a b : api_Msg, room 424 [a] [b] = some [a, b] := fun a b => room_eq (by simp) (by simp)
     unfold flOut
     cases hk8 : x.Req_.Kind_ == 108 with
     | false =>
      refine bind_eq (a := -1) rfl (bind_eq (cond_f rfl rfl) (bind_eq (cond_f rfl rfl) (bind_eq (r1 m) rfl)))
     | true =>
      have hf := ans_flush (by simpa using hk8) ha0
      refine bind_eq (bind_eq (refindex_eq _ (by omega)) rfl) ?_
      rw [cond_true]
      rcases find_get (l := l1) x.Req_.OldTag_ with ⟨q0, q1, _⟩ | ⟨j, z, q0, q1, q2, _⟩
      ·rw [q0, q1]
       exact bind_eq (cond_f rfl rfl) (bind_eq (cond_f rfl rfl) (bind_eq (r1 m) rfl))
      ·rw [q0, q1]
       have hj := (List.getElem?_eq_some_iff.1 q2).1
       have gj : getI l1 (j : Int) = some z := by rw [getI_nat, q2]
       have e1 : decide ((j : Int) ≥ 0) = true := by simp
       rcases hf with hm | hm
       ·rw [hm, e1]
        refine bind_eq (cond_f rfl rfl) (bind_eq (cond_t rfl (bind_eq gj rfl)) (bind_eq (r1 m) rfl))
       ·rw [hm, e1]
        refine bind_eq (cond_t rfl (bind_eq gj (bind_eq (reffail_eq _ _) (bind_eq (r1 _) (bind_eq (without_call hj (by omega)) rfl))))) (bind_eq (cond_f rfl rfl) (bind_eq (r2 _ m) rfl))
theorem msB_new {x m : api_Msg} (h : badV x m = false) : 256 ≤ m.Msize_ ∧ m.Msize_ ≤ 8192 := by
 unfold badV at h
 simp only [Bool.or_eq_false_iff, decide_eq_false_iff_not] at h
 omega
def msOK (n : Int) : Prop := n = 0 ∨ (256 ≤ n ∧ n ≤ 8192)
theorem msB_iff (c : api_Client) : msB c = true ↔ msOK c.Msize_ := by
 unfold msB msOK
 by_cases h0 : c.Msize_ = 0
 ·simp [h0]
 ·have : (c.Msize_ != 0) = true := by simpa using h0
  rw [this, Bool.true_and, Bool.not_eq_true', Bool.or_eq_false_iff]
  simp only [decide_eq_false_iff_not]
  omega
theorem take_keeps {ms : Int} {se : Str} {l : List api_Call} {m : api_Msg} {t : TS} (h : takeS ms se l m = .inr t) (hc : CV l) (hms : msOK ms) (hse : se.length ≤ 64) (hm : newV m = true → m.Session_.length ≤ 64) :
  CV t.2.2.1 ∧ msOK t.1 ∧ t.2.1.length ≤ 64 ∧ t.2.2.1.length + t.2.2.2.length = l.length ∧ (∀ y ∈ t.2.2.1, ∃ y0 ∈ l, y0.Req_ = y.Req_) ∧ (∀ o ∈ t.2.2.2, o = m ∨ ∃ z n, o = failM z n) := by
 unfold takeS at h
 rcases find_get (l := l) m.Tag_ with ⟨h0, h1, _⟩ | ⟨k, x, h0, h1, h2, h3⟩
 ·rw [h0] at h; cases h
 ·rw [h0, h1] at h
  have hk := (List.getElem?_eq_some_iff.1 h2).1
  simp only at h
  cases ha0 : ansB x.Req_ m with
  | false => rw [ha0] at h; cases h
  | true =>
   cases hv : newV m && badV x.Req_ m with
   | true => rw [ha0, hv] at h; cases h
   | false =>
    rw [ha0, hv] at h
    have h : Sum.inr ((bif newV m then m.Msize_ else ms), (bif newV m then m.Session_ else se), (flOut (l.eraseIdx k) x.Req_ m).1, (flOut (l.eraseIdx k) x.Req_ m).2 ++ [m]) = (Sum.inr t : Int ⊕ TS) := h
    injection h with h
    subst h
    have hms' : msOK (bif newV m then m.Msize_ else ms) := by
     cases hn : newV m with
     | false => exact hms
     | true => rw [hn, Bool.true_and] at hv; exact .inr (msB_new hv)
    have hse' : (bif newV m then m.Session_ else se).length ≤ 64 := by
     cases hn : newV m with
     | false => exact hse
     | true => exact hm hn
    have hlen : (l.eraseIdx k).length + 1 = l.length := by
     rw [List.length_eraseIdx, if_pos hk]; omega
    have hsub : ∀ y ∈ l.eraseIdx k, y ∈ l := fun y hy => (List.eraseIdx_sublist l k).subset hy
    suffices hq : CV (flOut (l.eraseIdx k) x.Req_ m).1 ∧ (flOut (l.eraseIdx k) x.Req_ m).1.length + (flOut (l.eraseIdx k) x.Req_ m).2.length = (l.eraseIdx k).length ∧ (∀ y ∈ (flOut (l.eraseIdx k) x.Req_ m).1, ∃ y0 ∈ l, y0.Req_ = y.Req_) ∧ (∀ o ∈ (flOut (l.eraseIdx k) x.Req_ m).2, ∃ z n, o = failM z n) by
     refine ⟨hq.1, hms', hse', ?_, hq.2.2.1, fun o ho => ?_⟩
     ·have := hq.2.1
      simp only [List.length_append, List.length_singleton]
      omega
     ·rcases List.mem_append.1 ho with h5 | h5
      ·exact .inr (hq.2.2.2 o h5)
      ·exact .inl (by simpa using h5)
    unfold flOut
    cases hk8 : x.Req_.Kind_ == 108 with
    | false =>
     have : x.Req_.Kind_ ≠ 108 := by simpa using hk8
     exact ⟨hc.drop h2 this, rfl, fun y hy => ⟨y, hsub y hy, rfl⟩, (fun _ h => nomatch h)⟩
    | true =>
     have hkx : x.Req_.Kind_ = 108 := by simpa using hk8
     rw [cond_true]
     rcases find_get (l := l.eraseIdx k) x.Req_.OldTag_ with ⟨q0, q1, q2⟩ | ⟨j, z, q0, q1, q2, q3⟩
     ·rw [q0]
      exact ⟨hc.dropF h2 q2, rfl, fun y hy => ⟨y, hsub y hy, rfl⟩, (fun _ h => nomatch h)⟩
     ·rw [q0, q1]
      have hj := (List.getElem?_eq_some_iff.1 q2).1
      show CV (bif m.Kind_ == 109 then ((l.eraseIdx k).eraseIdx j, [failM z.Req_ 56]) else ((l.eraseIdx k).set j ⟨z.Req_, 65535⟩, [])).1 ∧ _
      cases m.Kind_ == 109 with
      | true =>
       refine ⟨hc.drop2 h2 hkx q2 q3, ?_, fun y hy => ⟨y, hsub y ((List.eraseIdx_sublist _ j).subset hy), rfl⟩, fun o ho => ⟨z.Req_, 56, by simpa using ho⟩⟩
       show ((l.eraseIdx k).eraseIdx j).length + 1 = _
       rw [List.length_eraseIdx, if_pos hj]; omega
      | false =>
       refine ⟨hc.dropE h2 hkx q2 q3, ?_, fun y hy => ?_, (fun _ h => nomatch h)⟩
       ·show ((l.eraseIdx k).set j _).length + 0 = _
        simp
       ·have hnd : ((l.eraseIdx k).map fun x => x.Req_.Tag_).Nodup := hc.nd.sublist ((List.eraseIdx_sublist l k).map _)
        rcases mem_set hnd q2 hy with rfl | ⟨h6, _⟩
        ·exact ⟨z, hsub z (List.mem_of_getElem? q2), rfl⟩
        ·exact ⟨y, hsub y h6, rfl⟩
end Go.Proofs.YtolgkhjkdadhiaaGreat
namespace Go.Proofs.YtolgkhjkdadhiaaGreat
open Go.Rt Go.RowKit
theorem chk_session {m : api_Msg} (h : msg_Check m = some 0) (hk : m.Kind_ = 101) : m.Session_.length ≤ 64 := by
 unfold msg_Check at h
 obtain ⟨nm, e1⟩ := Option.get_some (name_some m.Kind_)
 rw [e1, Option.bind_some] at h
 cases hn : (nm == []) with
 | true => rw [hn] at h; cases h
 | false =>
  rw [hn, cond_false] at h
  obtain ⟨g, e2⟩ := Option.get_some (tagged_some m)
  rw [e2, Option.bind_some] at h
  cases g with
  | false => cases h
  | true =>
   rw [Bool.not_true, cond_false] at h
   cases ho : msg_only m with
   | none => rw [ho] at h; cases h
   | some y =>
    rw [ho, Option.bind_some] at h
    cases hs : msg_Same y m with
    | none => rw [hs] at h; cases h
    | some b =>
     rw [hs, Option.bind_some] at h
     cases b with
     | false => cases h
     | true =>
      rw [Bool.not_true, cond_false] at h
      have hf : msg_fields m = some (firstR [inR m.Msize_ 0 4294967295, shortR m.Version_ 64, shortR m.Session_ 64]) := by
       unfold msg_fields
       rw [hk]
       exact bind_eq (a := true) rfl (cond_t rfl (bind_eq (in_eq _ _ _) (bind_eq (short_eq _ _) (bind_eq (short_eq _ _) (bind_eq (first_eq _ (by simp)) rfl)))))
      rw [hf] at h
      have h0 : firstR [inR m.Msize_ 0 4294967295, shortR m.Version_ 64, shortR m.Session_ 64] = 0 := Option.some.inj h
      have := shortR_zero (first_zero h0 (shortR m.Session_ 64) (by simp))
      omega
structure MOK (m : api_Msg) : Prop where
 names : m.Names_.length ≤ 9223372036854775807
 qids : m.Qids_.length ≤ 9223372036854775807
 chk : msg_Check m = some 0
theorem MOK.session {m : api_Msg} (h : MOK m) (hv : newV m = true) : m.Session_.length ≤ 64 := by
 unfold newV at hv
 rw [Bool.and_eq_true] at hv
 exact chk_session h.chk (by simpa using hv.1)
theorem one_mok {o : Int} {x : Str} {m : api_Msg} {z : Nat} (hs : x.length ≤ 1000000) (h : one o x = .got m z) : MOK m := by
 obtain ⟨_, _, hm, hg, _⟩ := one_got hs h
 obtain ⟨m', n, e, h1, h2⟩ := get_fwd x 0 hs
 rw [hg] at h1
 simp only [Option.some.injEq, Prod.mk.injEq] at h1
 obtain ⟨rfl, _, rfl⟩ := h1
 rcases h2 with ⟨h2, _⟩ | ⟨_, A, z', _, _, _, _, hgd⟩
 ·exact absurd rfl h2
 ·exact ⟨hm.1, hm.2.2.1, hgd.2.1⟩
theorem Spl.mok {o : Int} {x : Str} {ms : List api_Msg} {r : Str} (h : Spl o x ms r) : x.length ≤ 1000000 → (∀ m ∈ ms, MOK m) ∧ one o r = .stop ∧ r.length ≤ x.length := by
 induction h with
 | stop h => exact fun _ => ⟨(fun _ h => nomatch h), h, Nat.le_refl _⟩
 | got h1 _ ih =>
  intro hs
  obtain ⟨i1, i2, i3⟩ := ih (by simp; omega)
  simp only [List.length_drop] at i3
  refine ⟨fun m hm => ?_, i2, by omega⟩
  cases hm with
  | head => exact one_mok hs h1
  | tail _ hm => exact i1 m hm
theorem rest_split {o : Int} {r : Str} (h : one o r = .stop) (hs : r.length ≤ 1000000) (n : Int) : wire_Split r n = some ([], r, 0) ∨ ∃ e, wire_Split r n = some ([], [], e) ∧ e ≠ 0 := by
 have h2 : one (limR n) r = .stop ∨ ∃ e, one (limR n) r = .bad e := by
  unfold one at h ⊢
  by_cases h4 : r.length < 4
  ·rw [if_pos h4]; exact .inl rfl
  ·rw [if_neg h4] at h ⊢
   by_cases h7 : (leV (win r 0 4) : Int) > limR n ∨ leV (win r 0 4) < 7
   ·rw [if_pos h7]; exact .inr ⟨_, rfl⟩
   ·rw [if_neg h7]
    by_cases h8 : (leV (win r 0 4) : Int) > o ∨ leV (win r 0 4) < 7
    ·rw [if_pos h8] at h; cases h
    ·rw [if_neg h8] at h
     by_cases h9 : r.length < leV (win r 0 4)
     ·rw [if_pos h9]; exact .inl rfl
     ·rw [if_neg h9] at h ⊢
      cases hg : wire_Get r 0 with
      | none => exact .inl rfl
      | some q =>
       obtain ⟨m, k, e⟩ := q
       rw [hg] at h
       simp only at h
       by_cases he : e = 0
       ·rw [if_pos he] at h; cases h
       ·rw [if_neg he] at h; cases h
 rcases h2 with h2 | ⟨e, h2⟩
 ·exact .inl (split_spl hs (.stop h2))
 ·rcases split_all r n hs with ⟨ms, r', h3⟩ | h3
  ·cases h3 with
   | stop h4 => rw [h2] at h4; cases h4
   | got h4 _ => rw [h2] at h4; cases h4
  ·exact .inr h3
theorem limR_le (n : Int) : limR n ≤ 8192 := by unfold limR; split <;> omega
theorem stop_len {o : Int} {r : Str} (ho : o ≤ 8192) (h : one o r = .stop) (hs : r.length ≤ 1000000) : r.length ≤ 8192 := by
 unfold one at h
 by_cases h4 : r.length < 4
 ·omega
 ·rw [if_neg h4] at h
  by_cases h7 : (leV (win r 0 4) : Int) > o ∨ leV (win r 0 4) < 7
  ·rw [if_pos h7] at h; cases h
  ·rw [if_neg h7] at h
   by_cases h9 : r.length < leV (win r 0 4)
   ·omega
   ·rw [if_neg h9] at h
    obtain ⟨m, n, e, h1, _⟩ := get_fwd r 0 hs
    rw [h1] at h
    simp only at h
    by_cases he : e = 0
    ·rw [if_pos he] at h; cases h
    ·rw [if_neg he] at h; cases h
theorem spl_stop {x : Str} {n : Int} (hs : x.length ≤ 1000000) (h : wire_Split x n = some ([], x, 0)) : one (limR n) x = .stop := by
 rcases split_all x n hs with ⟨ms, r, h3⟩ | ⟨e, h3, h4⟩
 ·have h5 := split_spl hs h3
  rw [h] at h5
  simp only [Option.some.injEq, Prod.mk.injEq] at h5
  obtain ⟨rfl, rfl, _⟩ := h5
  cases h3 with
  | stop h6 => exact h6
 ·rw [h] at h3
  simp only [Option.some.injEq, Prod.mk.injEq] at h3
  exact absurd h3.2.2.symm h4
theorem RP.stop {c : api_Client} (h : RP c) (hg : G c) : one (limR c.Msize_) c.Partial_ = .stop := spl_stop (by have := hg.part; omega) (of_decide_eq_true h.spl)
theorem RP.part {c : api_Client} (h : RP c) (hg : G c) : c.Partial_.length ≤ 8192 := stop_len (limR_le _) (h.stop hg) (by have := hg.part; omega)
def runS : List api_Msg → TS → Int × TS
 | [], t => (0, t)
 | m :: ms, t => match takeS t.1 t.2.1 t.2.2.1 m with
  | .inl e => (e, t)
  | .inr u => runS ms (u.1, u.2.1, u.2.2.1, t.2.2.2 ++ u.2.2.2)
structure TI (n : Nat) (l0 : List api_Call) (t : TS) : Prop where
 cv : CV t.2.2.1
 ms : msOK t.1
 se : t.2.1.length ≤ 64
 len : t.2.2.2.length + t.2.2.1.length = n
 from_ : ∀ y ∈ t.2.2.1, ∃ y0 ∈ l0, y0.Req_ = y.Req_
 out : ∀ o ∈ t.2.2.2, o.Names_.length ≤ 9223372036854775807 ∧ o.Qids_.length ≤ 9223372036854775807
theorem TI.next {n : Nat} {l0 : List api_Call} {t u : TS} (h : TI n l0 t) {m : api_Msg} (hm : MOK m) (hu : takeS t.1 t.2.1 t.2.2.1 m = .inr u) : TI n l0 (u.1, u.2.1, u.2.2.1, t.2.2.2 ++ u.2.2.2) := by
 obtain ⟨a, b, c, d, e, f⟩ := take_keeps hu h.cv h.ms h.se hm.session
 refine ⟨a, b, c, ?_, fun y hy => ?_, fun o ho => ?_⟩
 ·have := h.len
  simp only [List.length_append]
  omega
 ·obtain ⟨y1, h1, h2⟩ := e y hy
  obtain ⟨y0, h3, h4⟩ := h.from_ y1 h1
  exact ⟨y0, h3, h4.trans h2⟩
 ·rcases List.mem_append.1 ho with h1 | h1
  ·exact h.out o h1
  ·rcases f o h1 with rfl | ⟨z, k, rfl⟩
   ·exact ⟨hm.names, hm.qids⟩
   ·exact ⟨Nat.zero_le _, Nat.zero_le _⟩
theorem run_keeps {n : Nat} {l0 : List api_Call} : ∀ {ms : List api_Msg} {t : TS}, TI n l0 t → (∀ m ∈ ms, MOK m) → TI n l0 (runS ms t).2
 | [], _, h, _ => h
 | m :: ms, t, h, hm => by
  simp only [runS]
  cases hu : takeS t.1 t.2.1 t.2.2.1 m with
  | inl e => exact h
  | inr u => exact run_keeps (h.next (hm m (by simp)) hu) fun m' hm' => hm m' (by simp [hm'])
theorem prog_loop (p : List api_Msg × Str × Int) (hp : p.1.length ≤ 100000) (hm : ∀ m ∈ p.1, MOK m) (up : Bool) (part : Str) (fids : List Int) (n : Nat) (hn : n ≤ 1000) (l0 : List api_Call) : ∀ (k fuel i : Nat) (t : TS), i + k = p.1.length → k < fuel → TI n l0 t →
  loopF (rpc_Receive_L1 p) fuel (0, (i : Int), up, t.1, t.2.1, part, fids, t.2.2.1, t.2.2.2) = some ((runS (p.1.drop i) t).1, up, (runS (p.1.drop i) t).2.1, (runS (p.1.drop i) t).2.2.1, part, fids, (runS (p.1.drop i) t).2.2.2.1, (runS (p.1.drop i) t).2.2.2.2) := by
 intro k
 induction k with
 | zero =>
  intro fuel i t hi hk _
  obtain ⟨f, rfl⟩ : ∃ f, fuel = f + 1 := ⟨fuel - 1, by omega⟩
  obtain rfl : i = p.1.length := by omega
  rw [List.drop_length]
  exact loop_done (prog_end ..)
 | succ k ih =>
  intro fuel i t hi hk ht
  obtain ⟨f, rfl⟩ : ∃ f, fuel = f + 1 := ⟨fuel - 1, by omega⟩
  have hlt : i < p.1.length := by omega
  have hlen := ht.len
  have hb := prog_body p 0 i hlt (by omega) up t.1 t.2.1 part fids t.2.2.1 t.2.2.2 (by omega) (by omega)
  rw [List.drop_eq_getElem_cons hlt]
  simp only [runS]
  cases hu : takeS t.1 t.2.1 t.2.2.1 p.1[i] with
  | inl e => rw [hu] at hb; exact loop_done hb
  | inr u =>
   rw [hu] at hb
   exact loop_next hb (ih f (i + 1) (u.1, u.2.1, u.2.2.1, t.2.2.2 ++ u.2.2.2) (by omega) (by omega) (ht.next (hm _ (List.getElem_mem hlt)) hu))
def cliT (c : api_Client) (t : TS) : api_Client := ⟨c.Up_, t.1, t.2.1, c.Fids_, t.2.2.1, c.Partial_⟩
def outR (c : api_Client) (r : Int × TS) : Out (api_Client × List api_Msg) (api_Client × List api_Msg × Int) := if r.1 = 0 then .fall (cliT c r.2, r.2.2.2.2) else .ret (loseC (cliT c r.2), r.2.2.2.2 ++ loseM (cliT c r.2), r.1)
theorem refrecv_loop (c : api_Client) (hu : c.Up_ = true) (hf : c.Fids_.length ≤ 1000) (hz : ∀ x ∈ c.Calls_, Sz x.Req_) (ms : List api_Msg) (hp : ms.length ≤ 100000) (hm : ∀ m ∈ ms, MOK m) (n : Nat) (hn : n ≤ 1000) : ∀ (k fuel i : Nat) (t : TS), i + k = ms.length → k < fuel → TI n c.Calls_ t →
  loopF ref38_Receive_L1 fuel ((i : Int), cliT c t, ms, t.2.2.2) = some (outR c (runS (ms.drop i) t)) := by
 intro k
 induction k with
 | zero =>
  intro fuel i t hi hk _
  obtain ⟨f, rfl⟩ : ∃ f, fuel = f + 1 := ⟨fuel - 1, by omega⟩
  obtain rfl : i = ms.length := by omega
  rw [List.drop_length]
  refine loop_done ?_
  unfold ref38_Receive_L1
  exact cond_f (lt_f _) rfl
 | succ k ih =>
  intro fuel i t hi hk ht
  obtain ⟨f, rfl⟩ : ∃ f, fuel = f + 1 := ⟨fuel - 1, by omega⟩
  have hlt : i < ms.length := by omega
  have hlen := ht.len
  have hb := take_eq (cliT c t) ms[i] (by show t.2.2.1.length ≤ 1000; omega)
  rw [List.drop_eq_getElem_cons hlt]
  simp only [runS]
  have hb : ref38_take (cliT c t) ms[i] = some (match takeS t.1 t.2.1 t.2.2.1 ms[i] with
   | .inl e => (cliT c t, [], e)
   | .inr u => (⟨c.Up_, u.1, u.2.1, c.Fids_, u.2.2.1, c.Partial_⟩, u.2.2.2, 0)) := hb
  cases hw : takeS t.1 t.2.1 t.2.2.1 ms[i] with
  | inl e =>
   rw [hw] at hb
   have he := take_err hw
   have hsz : SzC (cliT c t) := ⟨by show t.2.2.1.length ≤ 1000; omega, hf, fun x hx => by
    obtain ⟨y0, h1, h2⟩ := ht.from_ x hx
    rw [← h2]; exact hz y0 h1⟩
   refine loop_done ?_
   unfold ref38_Receive_L1
   have hll : (loseM (cliT c t)).length = t.2.2.1.length := by unfold loseM; rw [List.length_map]; rfl
   refine cond_t (lt_t hlt) (bind_eq (getI_lt hlt) (bind_eq hb (cond_t (by simpa using he) (bind_eq (lose_eq hsz hu).2 (bind_eq (room_eq (by show t.2.2.2.length + (loseM (cliT c t)).length ≤ _; omega) (by show (t.2.2.2.length + (loseM (cliT c t)).length) * 424 ≤ _; omega)) ?_)))))
   unfold outR
   rw [if_neg he]
  | inr u =>
   rw [hw] at hb
   have ht' := ht.next (hm _ (List.getElem_mem hlt)) hw
   have hl' := ht'.len
   simp only [List.length_append] at hl'
   refine loop_next ?_ (ih f (i + 1) (u.1, u.2.1, u.2.2.1, t.2.2.2 ++ u.2.2.2) (by omega) (by omega) ht')
   unfold ref38_Receive_L1
   refine cond_t (lt_t hlt) (bind_eq (getI_lt hlt) (bind_eq hb (cond_f rfl (bind_eq (room_eq (by show t.2.2.2.length + u.2.2.2.length ≤ _; omega) (by show (t.2.2.2.length + u.2.2.2.length) * 424 ≤ _; omega)) ?_))))
   rw [w_succ (by omega)]; rfl
theorem failM_small (z : api_Msg) (n : Int) : (failM z n).Names_.length ≤ 9223372036854775807 ∧ (failM z n).Qids_.length ≤ 9223372036854775807 := ⟨Nat.zero_le _, Nat.zero_le _⟩
theorem lose_small {c : api_Client} : ∀ m ∈ loseM c, m.Names_.length ≤ 9223372036854775807 ∧ m.Qids_.length ≤ 9223372036854775807 := fun m hm => by
 obtain ⟨x, _, rfl⟩ := List.mem_map.1 hm
 exact failM_small _ _
structure Rcv (c : api_Client) (s : Str) (v : api_Client × List api_Msg × Int) (ms : List api_Msg) (rest : Str) (t : TS) : Prop where
 up : c.Up_ = true
 spl : Spl (limR c.Msize_) (c.Partial_ ++ s) ms rest
 run : runS ms (c.Msize_, c.Session_, c.Calls_, []) = (0, t)
 again : wire_Split rest t.1 = some ([], rest, 0)
 res : v = (⟨c.Up_, t.1, t.2.1, c.Fids_, t.2.2.1, rest⟩, t.2.2.2, 0)
set_option maxHeartbeats 1600000 in
theorem receive_both {c : api_Client} {s : Str} (hg : G c) (hr : RP c) (hs : s.length ≤ 20000) : ∃ v, rpc_Receive c s = some v ∧ ref38_Receive c s = some v ∧ RP v.1 ∧ G v.1 ∧ v.2.1.length + v.1.Calls_.length = c.Calls_.length ∧ (∀ m ∈ v.2.1, m.Names_.length ≤ 9223372036854775807 ∧ m.Qids_.length ≤ 9223372036854775807) ∧
  (v.2.2 = 0 → ∃ ms rest t, Rcv c s v ms rest t) ∧ ((∃ ms rest t, Rcv c s v ms rest t) ∨ v.2.2 ≠ 0) ∧
  (∀ ms rest t e, c.Up_ = true → Spl (limR c.Msize_) (c.Partial_ ++ s) ms rest → runS ms (c.Msize_, c.Session_, c.Calls_, []) = (e, t) → e ≠ 0 → v.2.2 = e ∧ v.1.Up_ = false) ∧
  (∀ ms rest t, c.Up_ = true → Spl (limR c.Msize_) (c.Partial_ ++ s) ms rest → runS ms (c.Msize_, c.Session_, c.Calls_, []) = (0, t) → wire_Split rest t.1 = some ([], rest, 0) → v.2.2 = 0) := by
 have hB : BIG = 18446744073709551616 := rfl
 have ho := own_eq hg.szc
 have hp := hr.part hg
 have hcl := hg.calls
 unfold rpc_Receive ref38_Receive
 cases hu : c.Up_ with
 | false =>
  refine ⟨(c, [], 30), bind_eq ho (cond_t rfl rfl), cond_t rfl rfl, hr, hg, Nat.zero_add _, (fun _ h => nomatch h), fun h => absurd (show (30 : Int) = 0 from h) (by decide), .inr (by show (30 : Int) ≠ 0; decide), (fun _ _ _ _ h => nomatch h), fun _ _ _ h => nomatch h⟩
 | true =>
  have hcat : cat c.Partial_ s = some (c.Partial_ ++ s) := cat_eq (by omega)
  have hxl : (c.Partial_ ++ s).length ≤ 1000000 := by rw [List.length_append]; omega
  rcases split_all (c.Partial_ ++ s) c.Msize_ hxl with ⟨ms, rest, hsp⟩ | ⟨e, he, hne⟩
  ·have hsplit := split_spl hxl hsp
   have hsplit2 := (split_both _ c.Msize_ hxl).trans hsplit
   obtain ⟨hmok, hstop, hrl⟩ := hsp.mok hxl
   obtain ⟨hml, _⟩ := hsp.len hxl
   have hti : TI c.Calls_.length c.Calls_ (c.Msize_, c.Session_, c.Calls_, []) := ⟨hr.cv, (msB_iff c).1 hr.ms, hr.sess, Nat.zero_add _, fun y hy => ⟨y, hy, rfl⟩, (fun _ h => nomatch h)⟩
   have hl1 := prog_loop (ms, rest, 0) (by show ms.length ≤ 100000; rw [List.length_append] at hml; omega) hmok true rest c.Fids_ c.Calls_.length hcl c.Calls_ ms.length BIG 0 (c.Msize_, c.Session_, c.Calls_, []) (by show 0 + ms.length = ms.length; omega) (by rw [List.length_append] at hml; omega) hti
   have hl2 := refrecv_loop c hu hg.fids hg.szc.each ms (by rw [List.length_append] at hml; omega) hmok c.Calls_.length hcl ms.length BIG 0 (c.Msize_, c.Session_, c.Calls_, []) (by omega) (by rw [List.length_append] at hml; omega) hti
   have hkeep := run_keeps hti hmok
   rw [show ((0 : Nat) : Int) = 0 from rfl] at hl1 hl2
   have hl1 : loopF (rpc_Receive_L1 (ms, rest, 0)) BIG (0, 0, true, c.Msize_, c.Session_, rest, c.Fids_, c.Calls_, []) = some ((runS ms (c.Msize_, c.Session_, c.Calls_, [])).1, true, (runS ms (c.Msize_, c.Session_, c.Calls_, [])).2.1, (runS ms (c.Msize_, c.Session_, c.Calls_, [])).2.2.1, rest, c.Fids_, (runS ms (c.Msize_, c.Session_, c.Calls_, [])).2.2.2.1, (runS ms (c.Msize_, c.Session_, c.Calls_, [])).2.2.2.2) := hl1
   have hl2 : loopF ref38_Receive_L1 BIG (0, c, ms, []) = some (outR c (runS ms (c.Msize_, c.Session_, c.Calls_, []))) := hl2
   obtain ⟨e, t, hrun⟩ : ∃ e t, runS ms (c.Msize_, c.Session_, c.Calls_, []) = (e, t) := ⟨_, _, rfl⟩
   rw [hrun] at hl1 hl2 hkeep
   have hkl := hkeep.len
   unfold outR at hl2
   dsimp only at hl1 hl2 hkeep hkl
   -- what is lost
   have hlost : ∀ part : Str, part.length ≤ 1000000 → SzC ⟨true, t.1, t.2.1, c.Fids_, t.2.2.1, part⟩ := fun part _ => ⟨by show t.2.2.1.length ≤ 1000; omega, hg.fids, fun x hx => by
    obtain ⟨y0, h1, h2⟩ := hkeep.from_ x hx
    rw [← h2]; exact (hg.each y0 h1).1⟩
   have hlm : ∀ part : Str, (loseM ⟨true, t.1, t.2.1, c.Fids_, t.2.2.1, part⟩).length = t.2.2.1.length := fun part => by unfold loseM; rw [List.length_map]
   have hroom : ∀ part : Str, room 424 t.2.2.2 (loseM ⟨true, t.1, t.2.1, c.Fids_, t.2.2.1, part⟩) = some (t.2.2.2 ++ loseM ⟨true, t.1, t.2.1, c.Fids_, t.2.2.1, part⟩) := fun part => room_eq (by rw [hlm]; omega) (by rw [hlm]; omega)
   have hlrp : RP (loseC ⟨true, t.1, t.2.1, c.Fids_, t.2.2.1, rest⟩) := ⟨rfl, hkeep.se, hr.fl, hr.fids, Nat.zero_le _, .nil, decide_eq_true spl_nil, .inr ⟨rfl, rfl⟩⟩
   have hlg : G (loseC ⟨true, t.1, t.2.1, c.Fids_, t.2.2.1, rest⟩) := ⟨Nat.zero_le _, hg.fids, Nat.zero_le _, (fun _ h => nomatch h)⟩
   have hlq : ∀ m ∈ t.2.2.2 ++ loseM ⟨true, t.1, t.2.1, c.Fids_, t.2.2.1, rest⟩, m.Names_.length ≤ 9223372036854775807 ∧ m.Qids_.length ≤ 9223372036854775807 := fun m hm => by
    rcases List.mem_append.1 hm with h1 | h1
    ·exact hkeep.out m h1
    ·exact lose_small m h1
   have hlen2 : (t.2.2.2 ++ loseM ⟨true, t.1, t.2.1, c.Fids_, t.2.2.1, rest⟩).length + 0 = c.Calls_.length := by rw [List.length_append, hlm]; omega
   by_cases he : e = 0
   ·subst he
    rw [if_pos rfl] at hl2
    rcases rest_split hstop (by omega) t.1 with h2 | ⟨e2, h2, hne2⟩
    ·
     have h3 := (split_both rest t.1 (by omega)).trans h2
     refine ⟨(⟨true, t.1, t.2.1, c.Fids_, t.2.2.1, rest⟩, t.2.2.2, 0), bind_eq ho (cond_f rfl (bind_eq hcat (bind_eq hsplit (cond_f rfl (bind_eq (by rw [hu]; exact hl1) (bind_eq (cond_t rfl (bind_eq h2 rfl)) (cond_f rfl rfl))))))), cond_f rfl (bind_eq hcat (bind_eq hsplit2 (cond_f rfl (bind_eq hl2 (bind_eq h3 (cond_f rfl (by rw [← hu]; rfl))))))), ?_, ?_, hkl, hkeep.out, fun _ => ⟨ms, rest, t, hu, hsp, hrun, h2, by rw [hu]⟩, .inl ⟨ms, rest, t, hu, hsp, hrun, h2, by rw [hu]⟩, ?_, fun _ _ _ _ _ _ _ => rfl⟩
     ·exact ⟨(msB_iff _).2 hkeep.ms, hkeep.se, hr.fl, hr.fids, by have := hr.len; show t.2.2.1.length ≤ 64; omega, hkeep.cv, decide_eq_true h2, .inl rfl⟩
     ·refine ⟨by show t.2.2.1.length ≤ 1000; omega, hg.fids, by show rest.length ≤ 100000; rw [List.length_append] at hrl; omega, fun x hx => ?_⟩
      obtain ⟨y0, h1, h2⟩ := hkeep.from_ x hx
      rw [← h2]; exact hg.each y0 h1
     ·intro ms' rest' t' e' _ hsp' hrun' he'
      have h9 := split_spl hxl hsp'
      rw [hsplit] at h9
      simp only [Option.some.injEq, Prod.mk.injEq] at h9
      obtain ⟨rfl, _, _⟩ := h9
      rw [hrun] at hrun'
      simp only [Prod.mk.injEq] at hrun'
      exact absurd hrun'.1.symm he'
    ·have h3 := (split_both rest t.1 (by omega)).trans h2
     have hb2 : (e2 != 0) = true := by simpa using hne2
     refine ⟨(loseC ⟨true, t.1, t.2.1, c.Fids_, t.2.2.1, rest⟩, t.2.2.2 ++ loseM ⟨true, t.1, t.2.1, c.Fids_, t.2.2.1, rest⟩, e2), bind_eq ho (cond_f rfl (bind_eq hcat (bind_eq hsplit (cond_f rfl (bind_eq (by rw [hu]; exact hl1) (bind_eq (cond_t rfl (bind_eq h2 rfl)) (cond_t hb2 (bind_eq (lose_eq (hlost rest (by omega)) rfl).1 (bind_eq (hroom rest) rfl))))))))), cond_f rfl (bind_eq hcat (bind_eq hsplit2 (cond_f rfl (bind_eq hl2 (bind_eq h3 (cond_t hb2 (bind_eq (a := (loseC ⟨true, t.1, t.2.1, c.Fids_, t.2.2.1, rest⟩, loseM ⟨true, t.1, t.2.1, c.Fids_, t.2.2.1, rest⟩)) ?_ (bind_eq (hroom rest) rfl)))))))), hlrp, hlg, hlen2, hlq, fun h => absurd h hne2, .inr hne2, ?_, ?_⟩
     ·have := (lose_eq (c := cliT c t) (by have := hlost c.Partial_ (by omega); unfold cliT; rw [hu]; exact this) hu).2
      exact this
     ·intro ms' rest' t' e' _ hsp' hrun' he'
      have h9 := split_spl hxl hsp'
      rw [hsplit] at h9
      simp only [Option.some.injEq, Prod.mk.injEq] at h9
      obtain ⟨rfl, _, _⟩ := h9
      rw [hrun] at hrun'
      simp only [Prod.mk.injEq] at hrun'
      exact absurd hrun'.1.symm he'
     ·intro ms' rest' t' _ hsp' hrun' hsp2
      have h9 := split_spl hxl hsp'
      rw [hsplit] at h9
      simp only [Option.some.injEq, Prod.mk.injEq] at h9
      obtain ⟨rfl, rfl, _⟩ := h9
      rw [hrun] at hrun'
      simp only [Prod.mk.injEq] at hrun'
      obtain ⟨_, rfl⟩ := hrun'
      rw [h2] at hsp2
      simp only [Option.some.injEq, Prod.mk.injEq] at hsp2
      exact absurd hsp2.2.2 hne2
   ·rw [if_neg he] at hl2
    have hb : (e == 0) = false := by simpa using he
    have hb2 : (e != 0) = true := by simpa using he
    refine ⟨(loseC ⟨true, t.1, t.2.1, c.Fids_, t.2.2.1, rest⟩, t.2.2.2 ++ loseM ⟨true, t.1, t.2.1, c.Fids_, t.2.2.1, rest⟩, e), bind_eq ho (cond_f rfl (bind_eq hcat (bind_eq hsplit (cond_f rfl (bind_eq (by rw [hu]; exact hl1) (bind_eq (cond_f hb rfl) (cond_t hb2 (bind_eq (lose_eq (hlost rest (by omega)) rfl).1 (bind_eq (hroom rest) rfl))))))))), cond_f rfl (bind_eq hcat (bind_eq hsplit2 (cond_f rfl (bind_eq hl2 rfl)))), hlrp, hlg, hlen2, hlq, fun h => absurd h he, .inr he, ?_, ?_⟩
    ·intro ms' rest' t' e' _ hsp' hrun' he'
     have h9 := split_spl hxl hsp'
     rw [hsplit] at h9
     simp only [Option.some.injEq, Prod.mk.injEq] at h9
     obtain ⟨rfl, _, _⟩ := h9
     rw [hrun] at hrun'
     simp only [Prod.mk.injEq] at hrun'
     exact ⟨hrun'.1, rfl⟩
    ·intro ms' rest' t' _ hsp' hrun' _
     have h9 := split_spl hxl hsp'
     rw [hsplit] at h9
     simp only [Option.some.injEq, Prod.mk.injEq] at h9
     obtain ⟨rfl, _, _⟩ := h9
     rw [hrun] at hrun'
     simp only [Prod.mk.injEq] at hrun'
     exact absurd hrun'.1 he
  ·have h2 := (split_both _ c.Msize_ hxl).trans he
   have hb : (e != 0) = true := by simpa using hne
   obtain ⟨l1, l2⟩ := lose_eq hg.szc hu
   refine ⟨(loseC c, loseM c, e), bind_eq ho (cond_f rfl (bind_eq hcat (bind_eq he (cond_t hb (bind_eq l1 rfl))))), cond_f rfl (bind_eq hcat (bind_eq h2 (cond_t hb (bind_eq l2 rfl)))), lose_rp hr, lose_g hg, by show (loseM c).length + 0 = _; unfold loseM; simp, lose_small, fun h => absurd h hne, .inr hne, ?_, ?_⟩
   ·intro ms' rest' t' e' _ hsp' _ _
    have h9 := split_spl hxl hsp'
    rw [he] at h9
    simp only [Option.some.injEq, Prod.mk.injEq] at h9
    exact absurd h9.2.2 hne
   ·intro ms' rest' t' _ hsp' _ _
    have h9 := split_spl hxl hsp'
    rw [he] at h9
    simp only [Option.some.injEq, Prod.mk.injEq] at h9
    exact absurd h9.2.2 hne
end Go.Proofs.YtolgkhjkdadhiaaGreat
namespace Go.Proofs.YtolgkhjkdadhiaaGreat
open Go.Rt Go.RowKit
def m0 : api_Msg := api_Msg.mk 120 0 7 0 0 0 0 [] [] [] [] [] (api_Qid.mk 0 0 0) 0 0 0 [] 0 0 [] (api_Dir.mk 0 0 (api_Qid.mk 0 0 0) 0 0 0 0 [] [] [] []) 0 0 0 []
def cc (l : List api_Call) (p : Str) : api_Client := ⟨true, 0, [], [], l, p⟩
theorem m0_ok : m0.ok := ⟨⟨Nat.zero_le _, (fun _ h => nomatch h), Nat.zero_le _, Nat.zero_le _, zdir_ok⟩, (fun _ h => nomatch h), zqid_ok⟩
theorem c0_g : G (cc [] []) := ⟨Nat.zero_le _, Nat.zero_le _, Nat.zero_le _, (fun _ h => nomatch h)⟩
theorem c0_rp : RP (cc [] []) := ⟨rfl, Nat.zero_le _, Nat.zero_le _, rfl, Nat.zero_le _, .nil, decide_eq_true spl_nil, .inl rfl⟩
def rflM (n : Int) : api_Msg := api_Msg.mk 109 n 0 0 0 0 0 [] [] [] [] [] (api_Qid.mk 0 0 0) 0 0 0 [] 0 0 [] (api_Dir.mk 0 0 (api_Qid.mk 0 0 0) 0 0 0 0 [] [] [] []) 0 0 0 []
theorem rs0 : ref38_Start (cc [] []) m0 = some (cc [⟨withTag m0 1, 65535⟩] [], 1, [11, 0, 0, 0, 120, 1, 0, 7, 0, 0, 0], 0) := by kernel_rfl
theorem rf0 : ref38_Flush (cc [⟨withTag m0 1, 65535⟩] []) 1 = some (cc [⟨withTag m0 1, 2⟩, ⟨flushM 2 1, 65535⟩] [], 2, [9, 0, 0, 0, 108, 2, 0, 1, 0], 0) := by kernel_rfl
theorem rr0 : ref38_Receive (cc [⟨withTag m0 1, 2⟩, ⟨flushM 2 1, 65535⟩] []) [7, 0, 0, 0, 109, 2] = some (cc [⟨withTag m0 1, 2⟩, ⟨flushM 2 1, 65535⟩] [7, 0, 0, 0, 109, 2], [], 0) := by kernel_rfl
theorem rr1 : ref38_Receive (cc [⟨withTag m0 1, 2⟩, ⟨flushM 2 1, 65535⟩] [7, 0, 0, 0, 109, 2]) [0] = some (cc [] [], [failM (withTag m0 1) 56, rflM 2], 0) := by kernel_rfl
theorem awake38 : law38_awake = some true := by
 obtain ⟨v, a1, a2, a3, a4⟩ := start_both c0_g c0_rp m0_ok ⟨Nat.zero_le _, Nat.zero_le _⟩
 rw [rs0] at a2
 obtain rfl := Option.some.inj a2
 obtain ⟨v, b1, b2, b3, b4, _⟩ := flush_both 1 a4 a3
 rw [rf0] at b2
 obtain rfl := Option.some.inj b2
 obtain ⟨v, d1, d2, d3, d4, _⟩ := receive_both (s := [7, 0, 0, 0, 109, 2]) b4 b3 (by decide)
 rw [rr0] at d2
 obtain rfl := Option.some.inj d2
 obtain ⟨v, e1, e2, e3, e4, _⟩ := receive_both (s := [0]) d4 d3 (by decide)
 rw [rr1] at e2
 obtain rfl := Option.some.inj e2
 have hr := right_eq (e4.rsz)
 rw [(right_iff _).2 e3] at hr
 unfold law38_awake
 exact bind_eq (a := cc [] []) rfl (bind_eq a1 (cond_f rfl (bind_eq b1 (bind_eq (a := false) (cond_f rfl (bind_eq (a := ⟨withTag m0 1, 2⟩) rfl rfl)) (cond_f rfl (bind_eq d1 (cond_f rfl (bind_eq e1 (bind_eq (a := true) rfl (bind_eq (a := true) rfl (bind_eq (a := true) rfl (bind_eq (a := true) (cond_t rfl (bind_eq hr rfl)) rfl))))))))))))
def shortB (s : Str) : Bool := decide (s.length ≤ 1100)
theorem light_eq (m : api_Msg) : ∃ b, law38_light m = some b ∧ (b = true → Sz m) := by
 have hB : BIG = 18446744073709551616 := rfl
 unfold law38_light
 cases hA : ((((((((decide ((m.Names_.length : Int) > 40)) || (decide ((m.Qids_.length : Int) > 40))) || (decide ((m.Data_.length : Int) > 9000))) || (decide ((m.Version_.length : Int) > 1100))) || (decide ((m.User_.length : Int) > 1100))) || (decide ((m.Attach_.length : Int) > 1100))) || (decide ((m.Name_.length : Int) > 1100))) || (decide ((m.Session_.length : Int) > 1100))) with
 | true => exact ⟨false, rfl, fun h => nomatch h⟩
 | false =>
  simp only [Bool.or_eq_false_iff, decide_eq_false_iff_not] at hA
  obtain ⟨⟨⟨⟨⟨⟨⟨n1, n2⟩, _⟩, _⟩, _⟩, _⟩, _⟩, _⟩ := hA
  have hl := loop_scan (body := law38_light_L1 m) m.Names_ (fun _ s => noO (shortB s)) (by omega) (fun i hi => by
   unfold law38_light_L1
   refine cond_t (lt_t hi) (bind_eq (getI_lt hi) ?_)
   have e : decide (((m.Names_[i]).length : Int) > 1100) = !(shortB m.Names_[i]) := by unfold shortB; rw [Bool.eq_iff_iff]; simp; omega
   rw [e]
   cases shortB m.Names_[i] with
   | true => refine cond_f rfl ?_; rw [w_succ (by omega)]; rfl
   | false => rfl) (by unfold law38_light_L1; exact cond_f (lt_f _) rfl)
  have hz : Sz m := ⟨by omega, by omega⟩
  rcases scan_noO (fun _ s => shortB s) m.Names_ 0 with h1 | h1
  ·rw [h1] at hl
   exact ⟨_, cond_f rfl (bind_eq hl rfl), fun _ => hz⟩
  ·rw [h1] at hl
   exact ⟨_, cond_f rfl (bind_eq hl rfl), fun _ => hz⟩
structure SM (c : api_Client) : Prop where
 calls : c.Calls_.length ≤ 70
 fids : c.Fids_.length ≤ 300
 part : c.Partial_.length ≤ 9000
 each : ∀ x ∈ c.Calls_, Sz x.Req_
noncomputable def lightC (x : api_Call) : Bool := (law38_light x.Req_).getD false
theorem small_eq (c : api_Client) : ∃ b, law38_small c = some b ∧ (b = true → SM c) := by
 have hB : BIG = 18446744073709551616 := rfl
 unfold law38_small
 cases hA : ((((decide ((c.Calls_.length : Int) > 70)) || (decide ((c.Fids_.length : Int) > 300))) || (decide ((c.Session_.length : Int) > 1100))) || (decide ((c.Partial_.length : Int) > 9000))) with
 | true => exact ⟨false, rfl, fun h => nomatch h⟩
 | false =>
  simp only [Bool.or_eq_false_iff, decide_eq_false_iff_not] at hA
  obtain ⟨⟨⟨n1, n2⟩, _⟩, n4⟩ := hA
  have hc : ∀ x : api_Call, law38_light x.Req_ = some (lightC x) ∧ (lightC x = true → Sz x.Req_) := fun x => by
   obtain ⟨b, h1, h2⟩ := light_eq x.Req_
   unfold lightC
   rw [h1]
   exact ⟨rfl, h2⟩
  have hl := loop_scan (body := law38_small_L1 c) c.Calls_ (fun _ x => noO (lightC x)) (by omega) (fun i hi => by
   unfold law38_small_L1
   refine cond_t (lt_t hi) (bind_eq (getI_lt hi) (bind_eq (hc _).1 ?_))
   cases lightC c.Calls_[i] with
   | true => refine cond_f rfl ?_; rw [w_succ (by omega)]; rfl
   | false => rfl) (by unfold law38_small_L1; exact cond_f (lt_f _) rfl)
  cases h1 : scan (fun _ x => noO (lightC x)) 0 c.Calls_ with
  | none =>
   rw [h1] at hl
   refine ⟨true, cond_f rfl (bind_eq hl rfl), fun _ => ⟨by omega, by omega, by omega, fun x hx => ?_⟩⟩
   obtain ⟨i, hi⟩ := List.mem_iff_getElem?.1 hx
   exact (hc x).2 (noO_none.1 (scan_none.1 h1 i x hi))
  | some r =>
   rcases scan_noO (fun _ x => lightC x) c.Calls_ 0 with h2 | h2
   ·rw [h2] at h1; cases h1
   ·rw [h2] at hl
    exact ⟨false, cond_f rfl (bind_eq hl rfl), fun h => nomatch h⟩
theorem fit_calls {c : api_Client} (h : Fit te (.st 4) c) : ∀ x ∈ c.Calls_, x.Req_.ok := by
 intro x hx
 have h1 := (h 2).2.2.2.2.1.2 x hx
 obtain ⟨k1, k2, k3, k4, k5, k6, k7, t1, t2, t3, ⟨nl, nm⟩, ⟨ql, qm⟩, q1, q2, q3, i1, i2, i3, t4, i4, i5, t5, d1, d2, d3, d4, d5, d6, d7, d8, d9, s1, s2, s3, s4, e1, e2, e3, t6, _⟩ := h1
 refine ⟨⟨nl, fun s hs => (nm s hs).1, ql, t4, d1, d2, ⟨d3, d4, d5⟩, d6, d7, d8, d9, s1, s2, s3, s4⟩, fun q hq => ?_, q1, q2, q3⟩
 obtain ⟨a, b, c, _⟩ := qm q hq
 exact ⟨a, b, c⟩
theorem sm_g {c : api_Client} (h : SM c) (f : Fit te (.st 4) c) : G c := ⟨by have := h.calls; omega, by have := h.fids; omega, by have := h.part; omega, fun x hx => ⟨h.each x hx, fit_calls f x hx⟩⟩
theorem right_out {c : api_Client} (hr : RP c) (hg : G c) : rpc_Right c = some true := by
 rw [right_eq hg.rsz, (right_iff c).2 hr]
theorem rpcRight_plain (x0 : api_Client) (h0 : Fit te (.st 4) x0) : law38_RpcRight x0 = some true := by
 unfold law38_RpcRight
 obtain ⟨b, hb, hs⟩ := small_eq x0
 refine bind_eq hb ?_
 cases b with
 | false => exact cond_t rfl (bind_eq awake38 rfl)
 | true =>
  have hg := sm_g (hs rfl) h0
  refine cond_f rfl (bind_eq (right_eq hg.rsz) (bind_eq (refright_eq hg.rsz) (bind_eq (a := true) (cond_t (by simp) (bind_eq (a := cc [] []) rfl (bind_eq (a := cc [] []) rfl (bind_eq (same_self c0_g.szc) rfl)))) (bind_eq (a := true) (cond_t rfl (bind_eq awake38 rfl)) rfl))))
theorem door {c : api_Client} (h0 : Fit te (.st 4) c) {F : Bool → Option Bool} {y : Bool} (hy : y = false → SM c) (hA : F true = some true) (hB : y = false → G c → RP c → F false = some true) :
  (Option.bind (bif y then some true else Option.bind (ref38_Right c) fun (y4 : Bool) => some (!y4)) F) = some true := by
 cases y with
 | true => exact bind_eq (a := true) rfl hA
 | false =>
  have hg := sm_g (hy rfl) h0
  rw [refright_eq hg.rsz]
  cases hr : rightB c with
  | false => exact bind_eq (a := true) rfl hA
  | true => exact bind_eq (a := false) rfl (hB rfl hg ((right_iff c).1 hr))
theorem awake_b : (Option.bind (law38_awake) fun (y6 : Bool) => some (y6)) = some true := bind_eq awake38 rfl
theorem two_gates (x0 : api_Client) (x1 : api_Msg) : ∃ b, law38_small x0 = some b ∧ ∃ b', (bif (!b) then some true else Option.bind (law38_light x1) fun (y2 : Bool) => some (!y2)) = some (!b') ∧ (b' = true → SM x0 ∧ Sz x1) := by
 obtain ⟨b, hb, hs⟩ := small_eq x0
 obtain ⟨b', hb', hz⟩ := light_eq x1
 refine ⟨b, hb, b && b', ?_, fun h => ?_⟩
 ·cases b with
  | false => rfl
  | true => exact cond_f rfl (bind_eq hb' rfl)
 ·rw [Bool.and_eq_true] at h
  exact ⟨hs h.1, hz h.2⟩
theorem rpcStarts_plain (x0 : api_Client) (x1 : api_Msg) (h0 : Fit te (.st 4) x0) (h1 : Fit te (.st 2) x1) : law38_RpcStarts x0 x1 = some true := by
 unfold law38_RpcStarts
 obtain ⟨b, hb, b', e, hs⟩ := two_gates x0 x1
 refine bind_eq hb (bind_eq e (door h0 (fun h => (hs (by simpa using h)).1) (cond_t rfl awake_b) fun h hg hr => cond_f rfl ?_))
 obtain ⟨v, a1, a2, a3, a4⟩ := start_both hg hr (fit_msg x1 h1) (hs (by simpa using h)).2
 exact bind_eq a1 (bind_eq a2 (bind_eq (same_self a4.szc) (bind_eq (a := true) (cond_t (by simp) (bind_eq (right_out a3 a4) rfl)) (bind_eq (a := true) (cond_t rfl awake_b) rfl))))
theorem rpcFlushes_plain (x0 : api_Client) (x1 : Int) (h0 : Fit te (.st 4) x0) (_ : Fit te (.int .i64) x1) : law38_RpcFlushes x0 x1 = some true := by
 unfold law38_RpcFlushes
 obtain ⟨b, hb, hs⟩ := small_eq x0
 refine bind_eq hb (door h0 (fun h => hs (by simpa using h)) (cond_t rfl awake_b) fun h hg hr => cond_f rfl ?_)
 obtain ⟨v, a1, a2, a3, a4, _⟩ := flush_both x1 hg hr
 exact bind_eq a1 (bind_eq a2 (bind_eq (same_self a4.szc) (bind_eq (a := true) (cond_t (by simp) (bind_eq (right_out a3 a4) rfl)) (bind_eq (a := true) (cond_t rfl awake_b) rfl))))
theorem rpcReceives_plain (x0 : api_Client) (x1 : Str) (h0 : Fit te (.st 4) x0) (_ : Fit te .str x1) : law38_RpcReceives x0 x1 = some true := by
 unfold law38_RpcReceives
 obtain ⟨b, hb, hs⟩ := small_eq x0
 refine bind_eq hb (door h0 (fun h => hs (by simp at h; exact h.1)) (cond_t rfl awake_b) fun h hg hr => cond_f rfl ?_)
 simp only [Bool.or_eq_false_iff, decide_eq_false_iff_not] at h
 obtain ⟨v, a1, a2, a3, a4, a5, a6, _⟩ := receive_both (s := x1) hg hr (by omega)
 have hcl := hg.calls
 have e : ((v.2.1.length : Int) == (w64 ((x0.Calls_.length : Int) - (v.1.Calls_.length : Int)))) = true := by
  rw [w64_eq ⟨by omega, by omega⟩]
  simp
  omega
 exact bind_eq a1 (bind_eq a2 (bind_eq (same_self a4.szc) (bind_eq (a := true) (cond_t rfl (bind_eq (sameMsgs_self (by omega) a6) rfl)) (bind_eq (a := true) (cond_t (by simp) (bind_eq (right_out a3 a4) rfl)) (bind_eq (a := true) (cond_t (by rw [e]; rfl) awake_b) rfl)))))
end Go.Proofs.YtolgkhjkdadhiaaGreat
