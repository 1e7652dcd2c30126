/-
 What the statements of this seat hang on, part 7: Qm Qq Qr Qs Qt Qu Qv Qz Qza Qn Qzb Qzd Qze Qzf Qzg Qzh Qzi Qzc Fa0 Va.
-/
import Derived.Test.YtolgkhjkdadhiaaGreatYA6
import Derived.KernelRfl
namespace Go.Proofs.YtolgkhjkdadhiaaGreat
open Go.Rt Go.RowKit
structure api_Msg.ok (m : api_Msg) : Prop where
 small : m.small
 qids : ∀ q ∈ m.Qids_, q.ok
 qid : m.Qid_.ok
theorem inR_zero {x a b : Int} (h : inR x a b = 0) : a ≤ x ∧ x ≤ b := by
 unfold inR at h
 split at h
 ·assumption
 ·cases h
theorem shortR_zero {s : Str} {n : Int} (h : shortR s n = 0) : (s.length : Int) ≤ n := by
 unfold shortR at h
 split at h
 ·assumption
 ·cases h
theorem qidR_zero {q : api_Qid} (hq : q.ok) (h : qidR q = 0) : qle q ∧ ∃ t, encQ q = some t := by
 unfold qidR at h
 split at h
 ·cases h
 ·rename_i hc
  have hz := first_zero h
  obtain ⟨v1, v2⟩ := inR_zero (x := q.Vers_) (a := 0) (b := 2147483647) (hz _ (by simp))
  obtain ⟨p1, p2⟩ := inR_zero (x := q.Path_) (a := 0) (b := 1099511627776) (hz _ (by simp))
  simp only [Bool.or_eq_true, decide_eq_true_eq, bne_iff_ne, not_or, Decidable.not_not] at hc
  obtain ⟨t1, t2⟩ := hc
  have hT : q.Type_ ≤ 9223372036854775807 := hq.1.2
  have hb : okBits q.Type_ ((232 : Nat) : Int) = true := by
   have hw := within_eq q.Type_ 232 (by omega) hT
   unfold stat_within at hw
   rw [← Option.some.inj hw]
   simp only [Bool.or_eq_true, Bool.and_eq_true, beq_iff_eq, decide_eq_true_eq]
   exact .inr ⟨by omega, t2⟩
  have := bits_in q.Type_ 232 (by omega) hT hb
  unfold okIn at this
  simp only [Bool.or_eq_true, Bool.and_eq_true, beq_iff_eq, decide_eq_true_eq] at this
  refine ⟨⟨by omega, hT, by omega⟩, ?_⟩
  unfold encQ
  have f1 : fitsW q.Type_ 1 = true := by
   unfold fitsW; simp only [Bool.and_eq_true, Bool.or_eq_true, decide_eq_true_eq]; exact ⟨by omega, .inr (by omega)⟩
  have f2 : fitsW q.Vers_ 4 = true := by
   unfold fitsW; simp only [Bool.and_eq_true, Bool.or_eq_true, decide_eq_true_eq]; exact ⟨by omega, .inr (by omega)⟩
  have f3 : fitsW q.Path_ 8 = true := by
   unfold fitsW; simp only [Bool.and_eq_true, Bool.or_eq_true, decide_eq_true_eq]; exact ⟨by omega, .inl (by omega)⟩
  rw [f1, f2, f3]
  exact ⟨_, rfl⟩
theorem encs_ex {α : Type} {f : α → Option Str} : ∀ {l : List α}, (∀ x ∈ l, ∃ t, f x = some t) → ∃ t, encs f l = some t
 | [], _ => ⟨[], rfl⟩
 | x :: l, h => by
  obtain ⟨a, ha⟩ := h x List.mem_cons_self
  obtain ⟨b, hb⟩ := encs_ex (l := l) fun y hy => h y (List.mem_cons_of_mem _ hy)
  unfold encs
  rw [ha, hb]
  exact ⟨_, rfl⟩
theorem encL_ex {α : Type} {f : α → Option Str} {l : List α} (hl : l.length ≤ 65535) (h : ∀ x ∈ l, ∃ t, f x = some t) : ∃ t, encL f l = some t := by
 obtain ⟨b, hb⟩ := encs_ex h
 unfold encL
 rw [if_pos hl, hb]
 exact ⟨_, rfl⟩
theorem okName_len {s : Str} (h : okName s = true) : s.length ≤ 64 := by
 unfold okName at h
 simp only [Bool.and_eq_true, decide_eq_true_eq] at h
 exact h.1.1.1.2
theorem okN_zero {s : Str} (h : (if okName s then (0 : Int) else 6) = 0) : okName s = true := by
 cases e : okName s with
 | true => rfl
 | false => rw [e] at h; cases h
theorem encT_ex {s : Str} (h : s.length ≤ 65535) : ∃ t, encT s = some t := by
 unfold encT; rw [if_pos h]; exact ⟨_, rfl⟩
theorem encN_ex {n : Int} {w : Nat} (h0 : 0 ≤ n) (h : n < 2 ^ (8 * w) ∨ 8 ≤ w) : ∃ t, encN n w = some t := by
 have : fitsW n w = true := by
  unfold fitsW; simp only [Bool.and_eq_true, Bool.or_eq_true, decide_eq_true_eq]; exact ⟨h0, h.symm⟩
 exact ⟨_, encN_of this⟩
theorem namesR_zero {l : List Str} (h : namesR l = 0) : ∃ t, encL encT l = some t := by
 unfold namesR at h
 split at h
 ·cases h
 ·refine encL_ex (by omega) fun s hs => ?_
  have key : l.findSome? name1 = none := by
   cases e : l.findSome? name1 with
   | none => rfl
   | some y =>
    rw [e] at h
    obtain ⟨a, _, ha⟩ := List.exists_of_findSome?_eq_some e
    unfold name1 at ha
    split at ha
    ·cases ha
    ·cases ha; cases h
  have h1 := find_none key s hs
  unfold name1 at h1
  split at h1
  ·rename_i hc
   rcases hc with rfl | hc
   ·exact encT_ex (by decide)
   ·have := okName_len hc
    exact encT_ex (by omega)
  ·cases h1
theorem qidsR_zero {l : List api_Qid} (hq : ∀ q ∈ l, q.ok) (h : qidsR l = 0) : (∀ q ∈ l, qle q) ∧ ∃ t, encL encQ l = some t := by
 unfold qidsR at h
 split at h
 ·cases h
 ·have key : l.findSome? qid1 = none := by
   cases e : l.findSome? qid1 with
   | none => rfl
   | some y =>
    rw [e] at h
    obtain ⟨a, _, ha⟩ := List.exists_of_findSome?_eq_some e
    unfold qid1 first1 at ha
    split at ha
    ·cases ha
    ·cases ha; exact absurd h ‹_›
  have hz : ∀ q ∈ l, qidR q = 0 := fun q hx => by
   have h1 := find_none key q hx
   unfold qid1 first1 at h1
   split at h1
   ·assumption
   ·cases h1
  exact ⟨fun q hx => (qidR_zero (hq q hx) (hz q hx)).1, encL_ex (by omega) fun q hx => (qidR_zero (hq q hx) (hz q hx)).2⟩
theorem fault_len (n : Int) (h1 : 1 ≤ n) (h2 : n ≤ 59) : (faultT n).length ≤ 65535 := by
 have key : (List.range 60).all (fun n => decide ((faultT (n : Int)).length ≤ 65535)) = true := by kernel_rfl
 have := List.all_eq_true.1 key n.toNat (by simp; omega)
 rw [decide_eq_true_eq, show ((n.toNat : Nat) : Int) = n by omega] at this
 exact this
theorem encD_ex {s : Str} (h : s.length ≤ 65535) : ∃ t, encD s 4 = some t := by
 unfold encD
 rw [if_pos (fits4 _ (by omega))]
 exact ⟨_, rfl⟩
theorem encS_ex {d : api_Dir} (h : checkR d = 0) : ∃ t, encS d = some t := by
 unfold encS; rw [if_pos h]; exact ⟨_, rfl⟩
def Wr (m : api_Msg) (k : Lt) : Prop := (∃ t, encF k m = some t) ∧ fine k m
theorem encA_ex {m : api_Msg} : ∀ {l : List Lt}, (∀ k ∈ l, Wr m k) → ∃ t, encA l m = some t := fun h => encs_ex fun k hk => (h k hk).1
theorem fields_100 (m : api_Msg) (hk : m.Kind_ = 100) (h : m.ok) : msg_fields m = some (firstR [inR m.Msize_ 0 4294967295, shortR m.Version_ 64, shortR m.Session_ 64]) := by
 obtain ⟨_, h2, _, h4, h5⟩ := h.small
 unfold msg_fields
 rw [hk]
 simp only [Int.reduceBEq, BEq.rfl, cond_true, cond_false, Option.bind_some, in_eq, short_eq, fid_eq, qid_eq, qids_eq, names_eq _ h2, named_eq _ h4, check_eq _ h5 h5.2.2.2.2.2.2.2.1, first_eq _ (show List.length [_, _] ≤ 1000000 by simp), first_eq _ (show List.length [_, _, _] ≤ 1000000 by simp), first_eq _ (show List.length [_, _, _, _] ≤ 1000000 by simp)]
theorem wr_100 (m : api_Msg) (hk : m.Kind_ = 100) (h : m.ok) (hf : msg_fields m = some 0) : ∀ k ∈ ([.m, .v] : List Lt), Wr m k := by
 rw [fields_100 m hk h] at hf
 have hz := Option.some.inj hf
 have z0 : inR m.Msize_ 0 4294967295 = 0 := first_zero hz _ (.head _)
 have z1 : shortR m.Version_ 64 = 0 := first_zero hz _ (.tail _ (.head _))
 have z2 : shortR m.Session_ 64 = 0 := first_zero hz _ (.tail _ (.tail _ (.head _)))
 have w_m : Wr m .m := by obtain ⟨a, b⟩ := inR_zero z0; exact ⟨encN_ex (n := m.Msize_) (by omega) (by omega), by show m.Msize_ ≤ _; omega⟩
 have w_v : Wr m .v := by have a := shortR_zero z1; exact ⟨encT_ex (s := m.Version_) (by omega), trivial⟩
 intro k hk
 simp only [List.mem_cons, List.not_mem_nil, or_false] at hk
 rcases hk with rfl | rfl
 ·exact w_m
 ·exact w_v
theorem fields_101 (m : api_Msg) (hk : m.Kind_ = 101) (h : m.ok) : msg_fields m = some (firstR [inR m.Msize_ 0 4294967295, shortR m.Version_ 64, shortR m.Session_ 64]) := by
 obtain ⟨_, h2, _, h4, h5⟩ := h.small
 unfold msg_fields
 rw [hk]
 simp only [Int.reduceBEq, BEq.rfl, cond_true, cond_false, Option.bind_some, in_eq, short_eq, fid_eq, qid_eq, qids_eq, names_eq _ h2, named_eq _ h4, check_eq _ h5 h5.2.2.2.2.2.2.2.1, first_eq _ (show List.length [_, _] ≤ 1000000 by simp), first_eq _ (show List.length [_, _, _] ≤ 1000000 by simp), first_eq _ (show List.length [_, _, _, _] ≤ 1000000 by simp)]
theorem wr_101 (m : api_Msg) (hk : m.Kind_ = 101) (h : m.ok) (hf : msg_fields m = some 0) : ∀ k ∈ ([.m, .v, .s] : List Lt), Wr m k := by
 rw [fields_101 m hk h] at hf
 have hz := Option.some.inj hf
 have z0 : inR m.Msize_ 0 4294967295 = 0 := first_zero hz _ (.head _)
 have z1 : shortR m.Version_ 64 = 0 := first_zero hz _ (.tail _ (.head _))
 have z2 : shortR m.Session_ 64 = 0 := first_zero hz _ (.tail _ (.tail _ (.head _)))
 have w_m : Wr m .m := by obtain ⟨a, b⟩ := inR_zero z0; exact ⟨encN_ex (n := m.Msize_) (by omega) (by omega), by show m.Msize_ ≤ _; omega⟩
 have w_v : Wr m .v := by have a := shortR_zero z1; exact ⟨encT_ex (s := m.Version_) (by omega), trivial⟩
 have w_s : Wr m .s := by have a := shortR_zero z2; exact ⟨encT_ex (s := m.Session_) (by omega), trivial⟩
 intro k hk
 simp only [List.mem_cons, List.not_mem_nil, or_false] at hk
 rcases hk with rfl | rfl | rfl
 ·exact w_m
 ·exact w_v
 ·exact w_s
theorem fields_102 (m : api_Msg) (hk : m.Kind_ = 102) (h : m.ok) : msg_fields m = some (firstR [inR m.AuthFid_ 0 4294967294, shortR m.User_ 32, shortR m.Attach_ 1024]) := by
 obtain ⟨_, h2, _, h4, h5⟩ := h.small
 unfold msg_fields
 rw [hk]
 simp only [Int.reduceBEq, BEq.rfl, cond_true, cond_false, Option.bind_some, in_eq, short_eq, fid_eq, qid_eq, qids_eq, names_eq _ h2, named_eq _ h4, check_eq _ h5 h5.2.2.2.2.2.2.2.1, first_eq _ (show List.length [_, _] ≤ 1000000 by simp), first_eq _ (show List.length [_, _, _] ≤ 1000000 by simp), first_eq _ (show List.length [_, _, _, _] ≤ 1000000 by simp)]
theorem wr_102 (m : api_Msg) (hk : m.Kind_ = 102) (h : m.ok) (hf : msg_fields m = some 0) : ∀ k ∈ ([.a, .u, .x] : List Lt), Wr m k := by
 rw [fields_102 m hk h] at hf
 have hz := Option.some.inj hf
 have z0 : inR m.AuthFid_ 0 4294967294 = 0 := first_zero hz _ (.head _)
 have z1 : shortR m.User_ 32 = 0 := first_zero hz _ (.tail _ (.head _))
 have z2 : shortR m.Attach_ 1024 = 0 := first_zero hz _ (.tail _ (.tail _ (.head _)))
 have w_a : Wr m .a := by obtain ⟨a, b⟩ := inR_zero z0; exact ⟨encN_ex (n := m.AuthFid_) (by omega) (by omega), by show m.AuthFid_ ≤ _; omega⟩
 have w_u : Wr m .u := by have a := shortR_zero z1; exact ⟨encT_ex (s := m.User_) (by omega), trivial⟩
 have w_x : Wr m .x := by have a := shortR_zero z2; exact ⟨encT_ex (s := m.Attach_) (by omega), trivial⟩
 intro k hk
 simp only [List.mem_cons, List.not_mem_nil, or_false] at hk
 rcases hk with rfl | rfl | rfl
 ·exact w_a
 ·exact w_u
 ·exact w_x
theorem fields_103 (m : api_Msg) (hk : m.Kind_ = 103) (h : m.ok) : msg_fields m = some (firstR [qidR m.Qid_, inR m.Iounit_ 0 8192]) := by
 obtain ⟨_, h2, _, h4, h5⟩ := h.small
 unfold msg_fields
 rw [hk]
 simp only [Int.reduceBEq, BEq.rfl, cond_true, cond_false, Option.bind_some, in_eq, short_eq, fid_eq, qid_eq, qids_eq, names_eq _ h2, named_eq _ h4, check_eq _ h5 h5.2.2.2.2.2.2.2.1, first_eq _ (show List.length [_, _] ≤ 1000000 by simp), first_eq _ (show List.length [_, _, _] ≤ 1000000 by simp), first_eq _ (show List.length [_, _, _, _] ≤ 1000000 by simp)]
theorem wr_103 (m : api_Msg) (hk : m.Kind_ = 103) (h : m.ok) (hf : msg_fields m = some 0) : ∀ k ∈ ([.q] : List Lt), Wr m k := by
 rw [fields_103 m hk h] at hf
 have hz := Option.some.inj hf
 have z0 : qidR m.Qid_ = 0 := first_zero hz _ (.head _)
 have z1 : inR m.Iounit_ 0 8192 = 0 := first_zero hz _ (.tail _ (.head _))
 have w_q : Wr m .q := by obtain ⟨a, b⟩ := qidR_zero h.qid z0; exact ⟨b, a⟩
 intro k hk
 simp only [List.mem_cons, List.not_mem_nil, or_false] at hk
 subst hk; exact w_q
theorem fields_104 (m : api_Msg) (hk : m.Kind_ = 104) (h : m.ok) : msg_fields m = some (firstR [inR m.Fid_ 0 4294967294, inR m.AuthFid_ 0 4294967295, shortR m.User_ 32, shortR m.Attach_ 1024]) := by
 obtain ⟨_, h2, _, h4, h5⟩ := h.small
 unfold msg_fields
 rw [hk]
 simp only [Int.reduceBEq, BEq.rfl, cond_true, cond_false, Option.bind_some, in_eq, short_eq, fid_eq, qid_eq, qids_eq, names_eq _ h2, named_eq _ h4, check_eq _ h5 h5.2.2.2.2.2.2.2.1, first_eq _ (show List.length [_, _] ≤ 1000000 by simp), first_eq _ (show List.length [_, _, _] ≤ 1000000 by simp), first_eq _ (show List.length [_, _, _, _] ≤ 1000000 by simp)]
theorem wr_104 (m : api_Msg) (hk : m.Kind_ = 104) (h : m.ok) (hf : msg_fields m = some 0) : ∀ k ∈ ([.f, .a, .u, .x] : List Lt), Wr m k := by
 rw [fields_104 m hk h] at hf
 have hz := Option.some.inj hf
 have z0 : inR m.Fid_ 0 4294967294 = 0 := first_zero hz _ (.head _)
 have z1 : inR m.AuthFid_ 0 4294967295 = 0 := first_zero hz _ (.tail _ (.head _))
 have z2 : shortR m.User_ 32 = 0 := first_zero hz _ (.tail _ (.tail _ (.head _)))
 have z3 : shortR m.Attach_ 1024 = 0 := first_zero hz _ (.tail _ (.tail _ (.tail _ (.head _))))
 have w_f : Wr m .f := by obtain ⟨a, b⟩ := inR_zero z0; exact ⟨encN_ex (n := m.Fid_) (by omega) (by omega), by show m.Fid_ ≤ _; omega⟩
 have w_a : Wr m .a := by obtain ⟨a, b⟩ := inR_zero z1; exact ⟨encN_ex (n := m.AuthFid_) (by omega) (by omega), by show m.AuthFid_ ≤ _; omega⟩
 have w_u : Wr m .u := by have a := shortR_zero z2; exact ⟨encT_ex (s := m.User_) (by omega), trivial⟩
 have w_x : Wr m .x := by have a := shortR_zero z3; exact ⟨encT_ex (s := m.Attach_) (by omega), trivial⟩
 intro k hk
 simp only [List.mem_cons, List.not_mem_nil, or_false] at hk
 rcases hk with rfl | rfl | rfl | rfl
 ·exact w_f
 ·exact w_a
 ·exact w_u
 ·exact w_x
theorem fields_105 (m : api_Msg) (hk : m.Kind_ = 105) (h : m.ok) : msg_fields m = some (firstR [qidR m.Qid_, inR m.Iounit_ 0 8192]) := by
 obtain ⟨_, h2, _, h4, h5⟩ := h.small
 unfold msg_fields
 rw [hk]
 simp only [Int.reduceBEq, BEq.rfl, cond_true, cond_false, Option.bind_some, in_eq, short_eq, fid_eq, qid_eq, qids_eq, names_eq _ h2, named_eq _ h4, check_eq _ h5 h5.2.2.2.2.2.2.2.1, first_eq _ (show List.length [_, _] ≤ 1000000 by simp), first_eq _ (show List.length [_, _, _] ≤ 1000000 by simp), first_eq _ (show List.length [_, _, _, _] ≤ 1000000 by simp)]
theorem wr_105 (m : api_Msg) (hk : m.Kind_ = 105) (h : m.ok) (hf : msg_fields m = some 0) : ∀ k ∈ ([.q] : List Lt), Wr m k := by
 rw [fields_105 m hk h] at hf
 have hz := Option.some.inj hf
 have z0 : qidR m.Qid_ = 0 := first_zero hz _ (.head _)
 have z1 : inR m.Iounit_ 0 8192 = 0 := first_zero hz _ (.tail _ (.head _))
 have w_q : Wr m .q := by obtain ⟨a, b⟩ := qidR_zero h.qid z0; exact ⟨b, a⟩
 intro k hk
 simp only [List.mem_cons, List.not_mem_nil, or_false] at hk
 subst hk; exact w_q
theorem fields_107 (m : api_Msg) (hk : m.Kind_ = 107) (h : m.ok) : msg_fields m = some (inR m.Err_ 1 59) := by
 obtain ⟨_, h2, _, h4, h5⟩ := h.small
 unfold msg_fields
 rw [hk]
 simp only [Int.reduceBEq, BEq.rfl, cond_true, cond_false, Option.bind_some, in_eq, short_eq, fid_eq, qid_eq, qids_eq, names_eq _ h2, named_eq _ h4, check_eq _ h5 h5.2.2.2.2.2.2.2.1, first_eq _ (show List.length [_, _] ≤ 1000000 by simp), first_eq _ (show List.length [_, _, _] ≤ 1000000 by simp), first_eq _ (show List.length [_, _, _, _] ≤ 1000000 by simp)]
theorem wr_107 (m : api_Msg) (hk : m.Kind_ = 107) (h : m.ok) (hf : msg_fields m = some 0) : ∀ k ∈ ([.e] : List Lt), Wr m k := by
 rw [fields_107 m hk h] at hf
 have hz := Option.some.inj hf
 have z0 : inR m.Err_ 1 59 = 0 := hz
 have w_e : Wr m .e := by obtain ⟨a, b⟩ := inR_zero z0; exact ⟨encT_ex (s := faultT m.Err_) (fault_len _ a b), a, b⟩
 intro k hk
 simp only [List.mem_cons, List.not_mem_nil, or_false] at hk
 subst hk; exact w_e
theorem fields_108 (m : api_Msg) (hk : m.Kind_ = 108) (h : m.ok) : msg_fields m = some (inR m.OldTag_ 0 65534) := by
 obtain ⟨_, h2, _, h4, h5⟩ := h.small
 unfold msg_fields
 rw [hk]
 simp only [Int.reduceBEq, BEq.rfl, cond_true, cond_false, Option.bind_some, in_eq, short_eq, fid_eq, qid_eq, qids_eq, names_eq _ h2, named_eq _ h4, check_eq _ h5 h5.2.2.2.2.2.2.2.1, first_eq _ (show List.length [_, _] ≤ 1000000 by simp), first_eq _ (show List.length [_, _, _] ≤ 1000000 by simp), first_eq _ (show List.length [_, _, _, _] ≤ 1000000 by simp)]
theorem wr_108 (m : api_Msg) (hk : m.Kind_ = 108) (h : m.ok) (hf : msg_fields m = some 0) : ∀ k ∈ ([.o] : List Lt), Wr m k := by
 rw [fields_108 m hk h] at hf
 have hz := Option.some.inj hf
 have z0 : inR m.OldTag_ 0 65534 = 0 := hz
 have w_o : Wr m .o := by obtain ⟨a, b⟩ := inR_zero z0; exact ⟨encN_ex (n := m.OldTag_) (by omega) (by omega), by show m.OldTag_ ≤ _; omega⟩
 intro k hk
 simp only [List.mem_cons, List.not_mem_nil, or_false] at hk
 subst hk; exact w_o
theorem fields_109 (m : api_Msg) (hk : m.Kind_ = 109) (h : m.ok) : msg_fields m = some (inR m.Fid_ 0 4294967294) := by
 obtain ⟨_, h2, _, h4, h5⟩ := h.small
 unfold msg_fields
 rw [hk]
 simp only [Int.reduceBEq, cond_false, Option.bind_some, in_eq, short_eq, fid_eq, qid_eq, qids_eq, names_eq _ h2, named_eq _ h4, check_eq _ h5 h5.2.2.2.2.2.2.2.1, first_eq _ (show List.length [_, _] ≤ 1000000 by simp), first_eq _ (show List.length [_, _, _] ≤ 1000000 by simp), first_eq _ (show List.length [_, _, _, _] ≤ 1000000 by simp)]
theorem wr_109 (m : api_Msg) (_ : m.Kind_ = 109) (_ : m.ok) (_ : msg_fields m = some 0) : ∀ k ∈ ([] : List Lt), Wr m k := by
 intro k hk; cases hk
theorem fields_110 (m : api_Msg) (hk : m.Kind_ = 110) (h : m.ok) : msg_fields m = some (firstR [inR m.Fid_ 0 4294967294, inR m.NewFid_ 0 4294967294, namesR m.Names_]) := by
 obtain ⟨_, h2, _, h4, h5⟩ := h.small
 unfold msg_fields
 rw [hk]
 simp only [Int.reduceBEq, BEq.rfl, cond_true, cond_false, Option.bind_some, in_eq, short_eq, fid_eq, qid_eq, qids_eq, names_eq _ h2, named_eq _ h4, check_eq _ h5 h5.2.2.2.2.2.2.2.1, first_eq _ (show List.length [_, _] ≤ 1000000 by simp), first_eq _ (show List.length [_, _, _] ≤ 1000000 by simp), first_eq _ (show List.length [_, _, _, _] ≤ 1000000 by simp)]
theorem wr_110 (m : api_Msg) (hk : m.Kind_ = 110) (h : m.ok) (hf : msg_fields m = some 0) : ∀ k ∈ ([.f, .n, .w] : List Lt), Wr m k := by
 rw [fields_110 m hk h] at hf
 have hz := Option.some.inj hf
 have z0 : inR m.Fid_ 0 4294967294 = 0 := first_zero hz _ (.head _)
 have z1 : inR m.NewFid_ 0 4294967294 = 0 := first_zero hz _ (.tail _ (.head _))
 have z2 : namesR m.Names_ = 0 := first_zero hz _ (.tail _ (.tail _ (.head _)))
 have w_f : Wr m .f := by obtain ⟨a, b⟩ := inR_zero z0; exact ⟨encN_ex (n := m.Fid_) (by omega) (by omega), by show m.Fid_ ≤ _; omega⟩
 have w_n : Wr m .n := by obtain ⟨a, b⟩ := inR_zero z1; exact ⟨encN_ex (n := m.NewFid_) (by omega) (by omega), by show m.NewFid_ ≤ _; omega⟩
 have w_w : Wr m .w := ⟨namesR_zero z2, trivial⟩
 intro k hk
 simp only [List.mem_cons, List.not_mem_nil, or_false] at hk
 rcases hk with rfl | rfl | rfl
 ·exact w_f
 ·exact w_n
 ·exact w_w
theorem fields_111 (m : api_Msg) (hk : m.Kind_ = 111) (h : m.ok) : msg_fields m = some (qidsR m.Qids_) := by
 obtain ⟨_, h2, _, h4, h5⟩ := h.small
 unfold msg_fields
 rw [hk]
 simp only [Int.reduceBEq, BEq.rfl, cond_true, cond_false, Option.bind_some, in_eq, short_eq, fid_eq, qid_eq, qids_eq, names_eq _ h2, named_eq _ h4, check_eq _ h5 h5.2.2.2.2.2.2.2.1, first_eq _ (show List.length [_, _] ≤ 1000000 by simp), first_eq _ (show List.length [_, _, _] ≤ 1000000 by simp), first_eq _ (show List.length [_, _, _, _] ≤ 1000000 by simp)]
theorem wr_111 (m : api_Msg) (hk : m.Kind_ = 111) (h : m.ok) (hf : msg_fields m = some 0) : ∀ k ∈ ([.W] : List Lt), Wr m k := by
 rw [fields_111 m hk h] at hf
 have hz := Option.some.inj hf
 have z0 : qidsR m.Qids_ = 0 := hz
 have w_W : Wr m .W := by obtain ⟨a, b⟩ := qidsR_zero h.qids z0; exact ⟨b, a⟩
 intro k hk
 simp only [List.mem_cons, List.not_mem_nil, or_false] at hk
 subst hk; exact w_W
theorem fields_112 (m : api_Msg) (hk : m.Kind_ = 112) (h : m.ok) : msg_fields m = some (firstR [inR m.Fid_ 0 4294967294, inR m.Mode_ 0 255]) := by
 obtain ⟨_, h2, _, h4, h5⟩ := h.small
 unfold msg_fields
 rw [hk]
 simp only [Int.reduceBEq, BEq.rfl, cond_true, cond_false, Option.bind_some, in_eq, short_eq, fid_eq, qid_eq, qids_eq, names_eq _ h2, named_eq _ h4, check_eq _ h5 h5.2.2.2.2.2.2.2.1, first_eq _ (show List.length [_, _] ≤ 1000000 by simp), first_eq _ (show List.length [_, _, _] ≤ 1000000 by simp), first_eq _ (show List.length [_, _, _, _] ≤ 1000000 by simp)]
theorem wr_112 (m : api_Msg) (hk : m.Kind_ = 112) (h : m.ok) (hf : msg_fields m = some 0) : ∀ k ∈ ([.f, .M] : List Lt), Wr m k := by
 rw [fields_112 m hk h] at hf
 have hz := Option.some.inj hf
 have z0 : inR m.Fid_ 0 4294967294 = 0 := first_zero hz _ (.head _)
 have z1 : inR m.Mode_ 0 255 = 0 := first_zero hz _ (.tail _ (.head _))
 have w_f : Wr m .f := by obtain ⟨a, b⟩ := inR_zero z0; exact ⟨encN_ex (n := m.Fid_) (by omega) (by omega), by show m.Fid_ ≤ _; omega⟩
 have w_M : Wr m .M := by obtain ⟨a, b⟩ := inR_zero z1; exact ⟨encN_ex (n := m.Mode_) (by omega) (by omega), by show m.Mode_ ≤ _; omega⟩
 intro k hk
 simp only [List.mem_cons, List.not_mem_nil, or_false] at hk
 rcases hk with rfl | rfl
 ·exact w_f
 ·exact w_M
theorem fields_113 (m : api_Msg) (hk : m.Kind_ = 113) (h : m.ok) : msg_fields m = some (firstR [qidR m.Qid_, inR m.Iounit_ 0 8192]) := by
 obtain ⟨_, h2, _, h4, h5⟩ := h.small
 unfold msg_fields
 rw [hk]
 simp only [Int.reduceBEq, BEq.rfl, cond_true, cond_false, Option.bind_some, in_eq, short_eq, fid_eq, qid_eq, qids_eq, names_eq _ h2, named_eq _ h4, check_eq _ h5 h5.2.2.2.2.2.2.2.1, first_eq _ (show List.length [_, _] ≤ 1000000 by simp), first_eq _ (show List.length [_, _, _] ≤ 1000000 by simp), first_eq _ (show List.length [_, _, _, _] ≤ 1000000 by simp)]
theorem wr_113 (m : api_Msg) (hk : m.Kind_ = 113) (h : m.ok) (hf : msg_fields m = some 0) : ∀ k ∈ ([.q, .i] : List Lt), Wr m k := by
 rw [fields_113 m hk h] at hf
 have hz := Option.some.inj hf
 have z0 : qidR m.Qid_ = 0 := first_zero hz _ (.head _)
 have z1 : inR m.Iounit_ 0 8192 = 0 := first_zero hz _ (.tail _ (.head _))
 have w_q : Wr m .q := by obtain ⟨a, b⟩ := qidR_zero h.qid z0; exact ⟨b, a⟩
 have w_i : Wr m .i := by obtain ⟨a, b⟩ := inR_zero z1; exact ⟨encN_ex (n := m.Iounit_) (by omega) (by omega), by show m.Iounit_ ≤ _; omega⟩
 intro k hk
 simp only [List.mem_cons, List.not_mem_nil, or_false] at hk
 rcases hk with rfl | rfl
 ·exact w_q
 ·exact w_i
theorem fields_114 (m : api_Msg) (hk : m.Kind_ = 114) (h : m.ok) : msg_fields m = some (firstR [inR m.Fid_ 0 4294967294, (if okName m.Name_ then (0 : Int) else 6), inR m.Perm_ 0 4294967295, inR m.Mode_ 0 255]) := by
 obtain ⟨_, h2, _, h4, h5⟩ := h.small
 unfold msg_fields
 rw [hk]
 simp only [Int.reduceBEq, BEq.rfl, cond_true, cond_false, Option.bind_some, in_eq, short_eq, fid_eq, qid_eq, qids_eq, names_eq _ h2, named_eq _ h4, check_eq _ h5 h5.2.2.2.2.2.2.2.1, first_eq _ (show List.length [_, _] ≤ 1000000 by simp), first_eq _ (show List.length [_, _, _] ≤ 1000000 by simp), first_eq _ (show List.length [_, _, _, _] ≤ 1000000 by simp)]
theorem wr_114 (m : api_Msg) (hk : m.Kind_ = 114) (h : m.ok) (hf : msg_fields m = some 0) : ∀ k ∈ ([.f, .N, .p, .M] : List Lt), Wr m k := by
 rw [fields_114 m hk h] at hf
 have hz := Option.some.inj hf
 have z0 : inR m.Fid_ 0 4294967294 = 0 := first_zero hz _ (.head _)
 have z1 : (if okName m.Name_ then (0 : Int) else 6) = 0 := first_zero hz _ (.tail _ (.head _))
 have z2 : inR m.Perm_ 0 4294967295 = 0 := first_zero hz _ (.tail _ (.tail _ (.head _)))
 have z3 : inR m.Mode_ 0 255 = 0 := first_zero hz _ (.tail _ (.tail _ (.tail _ (.head _))))
 have w_f : Wr m .f := by obtain ⟨a, b⟩ := inR_zero z0; exact ⟨encN_ex (n := m.Fid_) (by omega) (by omega), by show m.Fid_ ≤ _; omega⟩
 have w_N : Wr m .N := by have a := okName_len (okN_zero z1); exact ⟨encT_ex (s := m.Name_) (by omega), trivial⟩
 have w_p : Wr m .p := by obtain ⟨a, b⟩ := inR_zero z2; exact ⟨encN_ex (n := m.Perm_) (by omega) (by omega), by show m.Perm_ ≤ _; omega⟩
 have w_M : Wr m .M := by obtain ⟨a, b⟩ := inR_zero z3; exact ⟨encN_ex (n := m.Mode_) (by omega) (by omega), by show m.Mode_ ≤ _; omega⟩
 intro k hk
 simp only [List.mem_cons, List.not_mem_nil, or_false] at hk
 rcases hk with rfl | rfl | rfl | rfl
 ·exact w_f
 ·exact w_N
 ·exact w_p
 ·exact w_M
theorem fields_115 (m : api_Msg) (hk : m.Kind_ = 115) (h : m.ok) : msg_fields m = some (firstR [qidR m.Qid_, inR m.Iounit_ 0 8192]) := by
 obtain ⟨_, h2, _, h4, h5⟩ := h.small
 unfold msg_fields
 rw [hk]
 simp only [Int.reduceBEq, BEq.rfl, cond_true, cond_false, Option.bind_some, in_eq, short_eq, fid_eq, qid_eq, qids_eq, names_eq _ h2, named_eq _ h4, check_eq _ h5 h5.2.2.2.2.2.2.2.1, first_eq _ (show List.length [_, _] ≤ 1000000 by simp), first_eq _ (show List.length [_, _, _] ≤ 1000000 by simp), first_eq _ (show List.length [_, _, _, _] ≤ 1000000 by simp)]
theorem wr_115 (m : api_Msg) (hk : m.Kind_ = 115) (h : m.ok) (hf : msg_fields m = some 0) : ∀ k ∈ ([.q, .i] : List Lt), Wr m k := by
 rw [fields_115 m hk h] at hf
 have hz := Option.some.inj hf
 have z0 : qidR m.Qid_ = 0 := first_zero hz _ (.head _)
 have z1 : inR m.Iounit_ 0 8192 = 0 := first_zero hz _ (.tail _ (.head _))
 have w_q : Wr m .q := by obtain ⟨a, b⟩ := qidR_zero h.qid z0; exact ⟨b, a⟩
 have w_i : Wr m .i := by obtain ⟨a, b⟩ := inR_zero z1; exact ⟨encN_ex (n := m.Iounit_) (by omega) (by omega), by show m.Iounit_ ≤ _; omega⟩
 intro k hk
 simp only [List.mem_cons, List.not_mem_nil, or_false] at hk
 rcases hk with rfl | rfl
 ·exact w_q
 ·exact w_i
theorem fields_116 (m : api_Msg) (hk : m.Kind_ = 116) (h : m.ok) : msg_fields m = some (firstR [inR m.Fid_ 0 4294967294, inR m.Offset_ 0 9007199254740991, inR m.Count_ 0 8192, shortR m.Data_ 8168]) := by
 obtain ⟨_, h2, _, h4, h5⟩ := h.small
 unfold msg_fields
 rw [hk]
 simp only [Int.reduceBEq, BEq.rfl, cond_true, cond_false, Option.bind_some, in_eq, short_eq, fid_eq, qid_eq, qids_eq, names_eq _ h2, named_eq _ h4, check_eq _ h5 h5.2.2.2.2.2.2.2.1, first_eq _ (show List.length [_, _] ≤ 1000000 by simp), first_eq _ (show List.length [_, _, _] ≤ 1000000 by simp), first_eq _ (show List.length [_, _, _, _] ≤ 1000000 by simp)]
theorem wr_116 (m : api_Msg) (hk : m.Kind_ = 116) (h : m.ok) (hf : msg_fields m = some 0) : ∀ k ∈ ([.f, .O, .c] : List Lt), Wr m k := by
 rw [fields_116 m hk h] at hf
 have hz := Option.some.inj hf
 have z0 : inR m.Fid_ 0 4294967294 = 0 := first_zero hz _ (.head _)
 have z1 : inR m.Offset_ 0 9007199254740991 = 0 := first_zero hz _ (.tail _ (.head _))
 have z2 : inR m.Count_ 0 8192 = 0 := first_zero hz _ (.tail _ (.tail _ (.head _)))
 have z3 : shortR m.Data_ 8168 = 0 := first_zero hz _ (.tail _ (.tail _ (.tail _ (.head _))))
 have w_f : Wr m .f := by obtain ⟨a, b⟩ := inR_zero z0; exact ⟨encN_ex (n := m.Fid_) (by omega) (by omega), by show m.Fid_ ≤ _; omega⟩
 have w_O : Wr m .O := by obtain ⟨a, b⟩ := inR_zero z1; exact ⟨encN_ex (n := m.Offset_) (by omega) (by omega), by show m.Offset_ ≤ _; omega⟩
 have w_c : Wr m .c := by obtain ⟨a, b⟩ := inR_zero z2; exact ⟨encN_ex (n := m.Count_) (by omega) (by omega), by show m.Count_ ≤ _; omega⟩
 intro k hk
 simp only [List.mem_cons, List.not_mem_nil, or_false] at hk
 rcases hk with rfl | rfl | rfl
 ·exact w_f
 ·exact w_O
 ·exact w_c
theorem fields_117 (m : api_Msg) (hk : m.Kind_ = 117) (h : m.ok) : msg_fields m = some (firstR [inR m.Fid_ 0 4294967294, inR m.Offset_ 0 9007199254740991, inR m.Count_ 0 8192, shortR m.Data_ 8168]) := by
 obtain ⟨_, h2, _, h4, h5⟩ := h.small
 unfold msg_fields
 rw [hk]
 simp only [Int.reduceBEq, BEq.rfl, cond_true, cond_false, Option.bind_some, in_eq, short_eq, fid_eq, qid_eq, qids_eq, names_eq _ h2, named_eq _ h4, check_eq _ h5 h5.2.2.2.2.2.2.2.1, first_eq _ (show List.length [_, _] ≤ 1000000 by simp), first_eq _ (show List.length [_, _, _] ≤ 1000000 by simp), first_eq _ (show List.length [_, _, _, _] ≤ 1000000 by simp)]
theorem wr_117 (m : api_Msg) (hk : m.Kind_ = 117) (h : m.ok) (hf : msg_fields m = some 0) : ∀ k ∈ ([.d] : List Lt), Wr m k := by
 rw [fields_117 m hk h] at hf
 have hz := Option.some.inj hf
 have z0 : inR m.Fid_ 0 4294967294 = 0 := first_zero hz _ (.head _)
 have z1 : inR m.Offset_ 0 9007199254740991 = 0 := first_zero hz _ (.tail _ (.head _))
 have z2 : inR m.Count_ 0 8192 = 0 := first_zero hz _ (.tail _ (.tail _ (.head _)))
 have z3 : shortR m.Data_ 8168 = 0 := first_zero hz _ (.tail _ (.tail _ (.tail _ (.head _))))
 have w_d : Wr m .d := by have a := shortR_zero z3; exact ⟨encD_ex (s := m.Data_) (by omega), trivial⟩
 intro k hk
 simp only [List.mem_cons, List.not_mem_nil, or_false] at hk
 subst hk; exact w_d
theorem fields_118 (m : api_Msg) (hk : m.Kind_ = 118) (h : m.ok) : msg_fields m = some (firstR [inR m.Fid_ 0 4294967294, inR m.Offset_ 0 9007199254740991, inR m.Count_ 0 8192, shortR m.Data_ 8168]) := by
 obtain ⟨_, h2, _, h4, h5⟩ := h.small
 unfold msg_fields
 rw [hk]
 simp only [Int.reduceBEq, BEq.rfl, cond_true, cond_false, Option.bind_some, in_eq, short_eq, fid_eq, qid_eq, qids_eq, names_eq _ h2, named_eq _ h4, check_eq _ h5 h5.2.2.2.2.2.2.2.1, first_eq _ (show List.length [_, _] ≤ 1000000 by simp), first_eq _ (show List.length [_, _, _] ≤ 1000000 by simp), first_eq _ (show List.length [_, _, _, _] ≤ 1000000 by simp)]
theorem wr_118 (m : api_Msg) (hk : m.Kind_ = 118) (h : m.ok) (hf : msg_fields m = some 0) : ∀ k ∈ ([.f, .O, .d] : List Lt), Wr m k := by
 rw [fields_118 m hk h] at hf
 have hz := Option.some.inj hf
 have z0 : inR m.Fid_ 0 4294967294 = 0 := first_zero hz _ (.head _)
 have z1 : inR m.Offset_ 0 9007199254740991 = 0 := first_zero hz _ (.tail _ (.head _))
 have z2 : inR m.Count_ 0 8192 = 0 := first_zero hz _ (.tail _ (.tail _ (.head _)))
 have z3 : shortR m.Data_ 8168 = 0 := first_zero hz _ (.tail _ (.tail _ (.tail _ (.head _))))
 have w_f : Wr m .f := by obtain ⟨a, b⟩ := inR_zero z0; exact ⟨encN_ex (n := m.Fid_) (by omega) (by omega), by show m.Fid_ ≤ _; omega⟩
 have w_O : Wr m .O := by obtain ⟨a, b⟩ := inR_zero z1; exact ⟨encN_ex (n := m.Offset_) (by omega) (by omega), by show m.Offset_ ≤ _; omega⟩
 have w_d : Wr m .d := by have a := shortR_zero z3; exact ⟨encD_ex (s := m.Data_) (by omega), trivial⟩
 intro k hk
 simp only [List.mem_cons, List.not_mem_nil, or_false] at hk
 rcases hk with rfl | rfl | rfl
 ·exact w_f
 ·exact w_O
 ·exact w_d
theorem fields_119 (m : api_Msg) (hk : m.Kind_ = 119) (h : m.ok) : msg_fields m = some (firstR [inR m.Fid_ 0 4294967294, inR m.Offset_ 0 9007199254740991, inR m.Count_ 0 8192, shortR m.Data_ 8168]) := by
 obtain ⟨_, h2, _, h4, h5⟩ := h.small
 unfold msg_fields
 rw [hk]
 simp only [Int.reduceBEq, BEq.rfl, cond_true, cond_false, Option.bind_some, in_eq, short_eq, fid_eq, qid_eq, qids_eq, names_eq _ h2, named_eq _ h4, check_eq _ h5 h5.2.2.2.2.2.2.2.1, first_eq _ (show List.length [_, _] ≤ 1000000 by simp), first_eq _ (show List.length [_, _, _] ≤ 1000000 by simp), first_eq _ (show List.length [_, _, _, _] ≤ 1000000 by simp)]
theorem wr_119 (m : api_Msg) (hk : m.Kind_ = 119) (h : m.ok) (hf : msg_fields m = some 0) : ∀ k ∈ ([.c] : List Lt), Wr m k := by
 rw [fields_119 m hk h] at hf
 have hz := Option.some.inj hf
 have z0 : inR m.Fid_ 0 4294967294 = 0 := first_zero hz _ (.head _)
 have z1 : inR m.Offset_ 0 9007199254740991 = 0 := first_zero hz _ (.tail _ (.head _))
 have z2 : inR m.Count_ 0 8192 = 0 := first_zero hz _ (.tail _ (.tail _ (.head _)))
 have z3 : shortR m.Data_ 8168 = 0 := first_zero hz _ (.tail _ (.tail _ (.tail _ (.head _))))
 have w_c : Wr m .c := by obtain ⟨a, b⟩ := inR_zero z2; exact ⟨encN_ex (n := m.Count_) (by omega) (by omega), by show m.Count_ ≤ _; omega⟩
 intro k hk
 simp only [List.mem_cons, List.not_mem_nil, or_false] at hk
 subst hk; exact w_c
theorem fields_120 (m : api_Msg) (hk : m.Kind_ = 120) (h : m.ok) : msg_fields m = some (inR m.Fid_ 0 4294967294) := by
 obtain ⟨_, h2, _, h4, h5⟩ := h.small
 unfold msg_fields
 rw [hk]
 simp only [Int.reduceBEq, cond_false, Option.bind_some, in_eq, short_eq, fid_eq, qid_eq, qids_eq, names_eq _ h2, named_eq _ h4, check_eq _ h5 h5.2.2.2.2.2.2.2.1, first_eq _ (show List.length [_, _] ≤ 1000000 by simp), first_eq _ (show List.length [_, _, _] ≤ 1000000 by simp), first_eq _ (show List.length [_, _, _, _] ≤ 1000000 by simp)]
theorem wr_120 (m : api_Msg) (hk : m.Kind_ = 120) (h : m.ok) (hf : msg_fields m = some 0) : ∀ k ∈ ([.f] : List Lt), Wr m k := by
 rw [fields_120 m hk h] at hf
 have hz := Option.some.inj hf
 have z0 : inR m.Fid_ 0 4294967294 = 0 := hz
 have w_f : Wr m .f := by obtain ⟨a, b⟩ := inR_zero z0; exact ⟨encN_ex (n := m.Fid_) (by omega) (by omega), by show m.Fid_ ≤ _; omega⟩
 intro k hk
 simp only [List.mem_cons, List.not_mem_nil, or_false] at hk
 subst hk; exact w_f
theorem fields_121 (m : api_Msg) (hk : m.Kind_ = 121) (h : m.ok) : msg_fields m = some (inR m.Fid_ 0 4294967294) := by
 obtain ⟨_, h2, _, h4, h5⟩ := h.small
 unfold msg_fields
 rw [hk]
 simp only [Int.reduceBEq, cond_false, Option.bind_some, in_eq, short_eq, fid_eq, qid_eq, qids_eq, names_eq _ h2, named_eq _ h4, check_eq _ h5 h5.2.2.2.2.2.2.2.1, first_eq _ (show List.length [_, _] ≤ 1000000 by simp), first_eq _ (show List.length [_, _, _] ≤ 1000000 by simp), first_eq _ (show List.length [_, _, _, _] ≤ 1000000 by simp)]
theorem wr_121 (m : api_Msg) (_ : m.Kind_ = 121) (_ : m.ok) (_ : msg_fields m = some 0) : ∀ k ∈ ([] : List Lt), Wr m k := by
 intro k hk; cases hk
theorem fields_122 (m : api_Msg) (hk : m.Kind_ = 122) (h : m.ok) : msg_fields m = some (inR m.Fid_ 0 4294967294) := by
 obtain ⟨_, h2, _, h4, h5⟩ := h.small
 unfold msg_fields
 rw [hk]
 simp only [Int.reduceBEq, cond_false, Option.bind_some, in_eq, short_eq, fid_eq, qid_eq, qids_eq, names_eq _ h2, named_eq _ h4, check_eq _ h5 h5.2.2.2.2.2.2.2.1, first_eq _ (show List.length [_, _] ≤ 1000000 by simp), first_eq _ (show List.length [_, _, _] ≤ 1000000 by simp), first_eq _ (show List.length [_, _, _, _] ≤ 1000000 by simp)]
theorem wr_122 (m : api_Msg) (hk : m.Kind_ = 122) (h : m.ok) (hf : msg_fields m = some 0) : ∀ k ∈ ([.f] : List Lt), Wr m k := by
 rw [fields_122 m hk h] at hf
 have hz := Option.some.inj hf
 have z0 : inR m.Fid_ 0 4294967294 = 0 := hz
 have w_f : Wr m .f := by obtain ⟨a, b⟩ := inR_zero z0; exact ⟨encN_ex (n := m.Fid_) (by omega) (by omega), by show m.Fid_ ≤ _; omega⟩
 intro k hk
 simp only [List.mem_cons, List.not_mem_nil, or_false] at hk
 subst hk; exact w_f
theorem fields_123 (m : api_Msg) (hk : m.Kind_ = 123) (h : m.ok) : msg_fields m = some (inR m.Fid_ 0 4294967294) := by
 obtain ⟨_, h2, _, h4, h5⟩ := h.small
 unfold msg_fields
 rw [hk]
 simp only [Int.reduceBEq, cond_false, Option.bind_some, in_eq, short_eq, fid_eq, qid_eq, qids_eq, names_eq _ h2, named_eq _ h4, check_eq _ h5 h5.2.2.2.2.2.2.2.1, first_eq _ (show List.length [_, _] ≤ 1000000 by simp), first_eq _ (show List.length [_, _, _] ≤ 1000000 by simp), first_eq _ (show List.length [_, _, _, _] ≤ 1000000 by simp)]
theorem wr_123 (m : api_Msg) (_ : m.Kind_ = 123) (_ : m.ok) (_ : msg_fields m = some 0) : ∀ k ∈ ([] : List Lt), Wr m k := by
 intro k hk; cases hk
theorem fields_124 (m : api_Msg) (hk : m.Kind_ = 124) (h : m.ok) : msg_fields m = some (inR m.Fid_ 0 4294967294) := by
 obtain ⟨_, h2, _, h4, h5⟩ := h.small
 unfold msg_fields
 rw [hk]
 simp only [Int.reduceBEq, cond_false, Option.bind_some, in_eq, short_eq, fid_eq, qid_eq, qids_eq, names_eq _ h2, named_eq _ h4, check_eq _ h5 h5.2.2.2.2.2.2.2.1, first_eq _ (show List.length [_, _] ≤ 1000000 by simp), first_eq _ (show List.length [_, _, _] ≤ 1000000 by simp), first_eq _ (show List.length [_, _, _, _] ≤ 1000000 by simp)]
theorem wr_124 (m : api_Msg) (hk : m.Kind_ = 124) (h : m.ok) (hf : msg_fields m = some 0) : ∀ k ∈ ([.f] : List Lt), Wr m k := by
 rw [fields_124 m hk h] at hf
 have hz := Option.some.inj hf
 have z0 : inR m.Fid_ 0 4294967294 = 0 := hz
 have w_f : Wr m .f := by obtain ⟨a, b⟩ := inR_zero z0; exact ⟨encN_ex (n := m.Fid_) (by omega) (by omega), by show m.Fid_ ≤ _; omega⟩
 intro k hk
 simp only [List.mem_cons, List.not_mem_nil, or_false] at hk
 subst hk; exact w_f
theorem fields_125 (m : api_Msg) (hk : m.Kind_ = 125) (h : m.ok) : msg_fields m = some (firstR [inR m.Fid_ 0 4294967294, checkR m.Stat_]) := by
 obtain ⟨_, h2, _, h4, h5⟩ := h.small
 unfold msg_fields
 rw [hk]
 simp only [Int.reduceBEq, BEq.rfl, cond_true, cond_false, Option.bind_some, in_eq, short_eq, fid_eq, qid_eq, qids_eq, names_eq _ h2, named_eq _ h4, check_eq _ h5 h5.2.2.2.2.2.2.2.1, first_eq _ (show List.length [_, _] ≤ 1000000 by simp), first_eq _ (show List.length [_, _, _] ≤ 1000000 by simp), first_eq _ (show List.length [_, _, _, _] ≤ 1000000 by simp)]
theorem wr_125 (m : api_Msg) (hk : m.Kind_ = 125) (h : m.ok) (hf : msg_fields m = some 0) : ∀ k ∈ ([.S] : List Lt), Wr m k := by
 rw [fields_125 m hk h] at hf
 have hz := Option.some.inj hf
 have z0 : inR m.Fid_ 0 4294967294 = 0 := first_zero hz _ (.head _)
 have z1 : checkR m.Stat_ = 0 := first_zero hz _ (.tail _ (.head _))
 have w_S : Wr m .S := ⟨encS_ex z1, trivial⟩
 intro k hk
 simp only [List.mem_cons, List.not_mem_nil, or_false] at hk
 subst hk; exact w_S
theorem fields_126 (m : api_Msg) (hk : m.Kind_ = 126) (h : m.ok) : msg_fields m = some (firstR [inR m.Fid_ 0 4294967294, checkR m.Stat_]) := by
 obtain ⟨_, h2, _, h4, h5⟩ := h.small
 unfold msg_fields
 rw [hk]
 simp only [Int.reduceBEq, BEq.rfl, cond_true, cond_false, Option.bind_some, in_eq, short_eq, fid_eq, qid_eq, qids_eq, names_eq _ h2, named_eq _ h4, check_eq _ h5 h5.2.2.2.2.2.2.2.1, first_eq _ (show List.length [_, _] ≤ 1000000 by simp), first_eq _ (show List.length [_, _, _] ≤ 1000000 by simp), first_eq _ (show List.length [_, _, _, _] ≤ 1000000 by simp)]
theorem wr_126 (m : api_Msg) (hk : m.Kind_ = 126) (h : m.ok) (hf : msg_fields m = some 0) : ∀ k ∈ ([.f, .S] : List Lt), Wr m k := by
 rw [fields_126 m hk h] at hf
 have hz := Option.some.inj hf
 have z0 : inR m.Fid_ 0 4294967294 = 0 := first_zero hz _ (.head _)
 have z1 : checkR m.Stat_ = 0 := first_zero hz _ (.tail _ (.head _))
 have w_f : Wr m .f := by obtain ⟨a, b⟩ := inR_zero z0; exact ⟨encN_ex (n := m.Fid_) (by omega) (by omega), by show m.Fid_ ≤ _; omega⟩
 have w_S : Wr m .S := ⟨encS_ex z1, trivial⟩
 intro k hk
 simp only [List.mem_cons, List.not_mem_nil, or_false] at hk
 rcases hk with rfl | rfl
 ·exact w_f
 ·exact w_S
theorem fields_127 (m : api_Msg) (hk : m.Kind_ = 127) (h : m.ok) : msg_fields m = some (inR m.Fid_ 0 4294967294) := by
 obtain ⟨_, h2, _, h4, h5⟩ := h.small
 unfold msg_fields
 rw [hk]
 simp only [Int.reduceBEq, cond_false, Option.bind_some, in_eq, short_eq, fid_eq, qid_eq, qids_eq, names_eq _ h2, named_eq _ h4, check_eq _ h5 h5.2.2.2.2.2.2.2.1, first_eq _ (show List.length [_, _] ≤ 1000000 by simp), first_eq _ (show List.length [_, _, _] ≤ 1000000 by simp), first_eq _ (show List.length [_, _, _, _] ≤ 1000000 by simp)]
theorem wr_127 (m : api_Msg) (_ : m.Kind_ = 127) (_ : m.ok) (_ : msg_fields m = some 0) : ∀ k ∈ ([] : List Lt), Wr m k := by
 intro k hk; cases hk
theorem fields_128 (m : api_Msg) (hk : m.Kind_ = 128) (h : m.ok) : msg_fields m = some (firstR [inR m.Fid_ 0 4294967294, qidR m.Qid_, inR m.Lease_ 0 2, inR m.Term_ 0 1048576]) := by
 obtain ⟨_, h2, _, h4, h5⟩ := h.small
 unfold msg_fields
 rw [hk]
 simp only [Int.reduceBEq, BEq.rfl, cond_true, cond_false, Option.bind_some, in_eq, short_eq, fid_eq, qid_eq, qids_eq, names_eq _ h2, named_eq _ h4, check_eq _ h5 h5.2.2.2.2.2.2.2.1, first_eq _ (show List.length [_, _] ≤ 1000000 by simp), first_eq _ (show List.length [_, _, _] ≤ 1000000 by simp), first_eq _ (show List.length [_, _, _, _] ≤ 1000000 by simp)]
theorem wr_128 (m : api_Msg) (hk : m.Kind_ = 128) (h : m.ok) (hf : msg_fields m = some 0) : ∀ k ∈ ([.f, .l, .t] : List Lt), Wr m k := by
 rw [fields_128 m hk h] at hf
 have hz := Option.some.inj hf
 have z0 : inR m.Fid_ 0 4294967294 = 0 := first_zero hz _ (.head _)
 have z1 : qidR m.Qid_ = 0 := first_zero hz _ (.tail _ (.head _))
 have z2 : inR m.Lease_ 0 2 = 0 := first_zero hz _ (.tail _ (.tail _ (.head _)))
 have z3 : inR m.Term_ 0 1048576 = 0 := first_zero hz _ (.tail _ (.tail _ (.tail _ (.head _))))
 have w_f : Wr m .f := by obtain ⟨a, b⟩ := inR_zero z0; exact ⟨encN_ex (n := m.Fid_) (by omega) (by omega), by show m.Fid_ ≤ _; omega⟩
 have w_l : Wr m .l := by obtain ⟨a, b⟩ := inR_zero z2; exact ⟨encN_ex (n := m.Lease_) (by omega) (by omega), by show m.Lease_ ≤ _; omega⟩
 have w_t : Wr m .t := by obtain ⟨a, b⟩ := inR_zero z3; exact ⟨encN_ex (n := m.Term_) (by omega) (by omega), by show m.Term_ ≤ _; omega⟩
 intro k hk
 simp only [List.mem_cons, List.not_mem_nil, or_false] at hk
 rcases hk with rfl | rfl | rfl
 ·exact w_f
 ·exact w_l
 ·exact w_t
theorem fields_129 (m : api_Msg) (hk : m.Kind_ = 129) (h : m.ok) : msg_fields m = some (firstR [inR m.Fid_ 0 4294967294, qidR m.Qid_, inR m.Lease_ 0 2, inR m.Term_ 0 1048576]) := by
 obtain ⟨_, h2, _, h4, h5⟩ := h.small
 unfold msg_fields
 rw [hk]
 simp only [Int.reduceBEq, BEq.rfl, cond_true, cond_false, Option.bind_some, in_eq, short_eq, fid_eq, qid_eq, qids_eq, names_eq _ h2, named_eq _ h4, check_eq _ h5 h5.2.2.2.2.2.2.2.1, first_eq _ (show List.length [_, _] ≤ 1000000 by simp), first_eq _ (show List.length [_, _, _] ≤ 1000000 by simp), first_eq _ (show List.length [_, _, _, _] ≤ 1000000 by simp)]
theorem wr_129 (m : api_Msg) (hk : m.Kind_ = 129) (h : m.ok) (hf : msg_fields m = some 0) : ∀ k ∈ ([.q, .l, .t] : List Lt), Wr m k := by
 rw [fields_129 m hk h] at hf
 have hz := Option.some.inj hf
 have z0 : inR m.Fid_ 0 4294967294 = 0 := first_zero hz _ (.head _)
 have z1 : qidR m.Qid_ = 0 := first_zero hz _ (.tail _ (.head _))
 have z2 : inR m.Lease_ 0 2 = 0 := first_zero hz _ (.tail _ (.tail _ (.head _)))
 have z3 : inR m.Term_ 0 1048576 = 0 := first_zero hz _ (.tail _ (.tail _ (.tail _ (.head _))))
 have w_q : Wr m .q := by obtain ⟨a, b⟩ := qidR_zero h.qid z1; exact ⟨b, a⟩
 have w_l : Wr m .l := by obtain ⟨a, b⟩ := inR_zero z2; exact ⟨encN_ex (n := m.Lease_) (by omega) (by omega), by show m.Lease_ ≤ _; omega⟩
 have w_t : Wr m .t := by obtain ⟨a, b⟩ := inR_zero z3; exact ⟨encN_ex (n := m.Term_) (by omega) (by omega), by show m.Term_ ≤ _; omega⟩
 intro k hk
 simp only [List.mem_cons, List.not_mem_nil, or_false] at hk
 rcases hk with rfl | rfl | rfl
 ·exact w_q
 ·exact w_l
 ·exact w_t
theorem fields_130 (m : api_Msg) (hk : m.Kind_ = 130) (h : m.ok) : msg_fields m = some (shortR m.Session_ 64) := by
 obtain ⟨_, h2, _, h4, h5⟩ := h.small
 unfold msg_fields
 rw [hk]
 simp only [Int.reduceBEq, BEq.rfl, cond_true, cond_false, Option.bind_some, in_eq, short_eq, fid_eq, qid_eq, qids_eq, names_eq _ h2, named_eq _ h4, check_eq _ h5 h5.2.2.2.2.2.2.2.1, first_eq _ (show List.length [_, _] ≤ 1000000 by simp), first_eq _ (show List.length [_, _, _] ≤ 1000000 by simp), first_eq _ (show List.length [_, _, _, _] ≤ 1000000 by simp)]
theorem wr_130 (m : api_Msg) (hk : m.Kind_ = 130) (h : m.ok) (hf : msg_fields m = some 0) : ∀ k ∈ ([.s] : List Lt), Wr m k := by
 rw [fields_130 m hk h] at hf
 have hz := Option.some.inj hf
 have z0 : shortR m.Session_ 64 = 0 := hz
 have w_s : Wr m .s := by have a := shortR_zero z0; exact ⟨encT_ex (s := m.Session_) (by omega), trivial⟩
 intro k hk
 simp only [List.mem_cons, List.not_mem_nil, or_false] at hk
 subst hk; exact w_s
theorem fields_131 (m : api_Msg) (hk : m.Kind_ = 131) (h : m.ok) : msg_fields m = some (inR m.Fid_ 0 4294967294) := by
 obtain ⟨_, h2, _, h4, h5⟩ := h.small
 unfold msg_fields
 rw [hk]
 simp only [Int.reduceBEq, cond_false, Option.bind_some, in_eq, short_eq, fid_eq, qid_eq, qids_eq, names_eq _ h2, named_eq _ h4, check_eq _ h5 h5.2.2.2.2.2.2.2.1, first_eq _ (show List.length [_, _] ≤ 1000000 by simp), first_eq _ (show List.length [_, _, _] ≤ 1000000 by simp), first_eq _ (show List.length [_, _, _, _] ≤ 1000000 by simp)]
theorem wr_131 (m : api_Msg) (_ : m.Kind_ = 131) (_ : m.ok) (_ : msg_fields m = some 0) : ∀ k ∈ ([] : List Lt), Wr m k := by
 intro k hk; cases hk
end Go.Proofs.YtolgkhjkdadhiaaGreat
namespace Go.Proofs.YtolgkhjkdadhiaaGreat
open Go.Rt Go.RowKit
theorem ref_loop (s : Str) (h : s.length ≤ 9223372036854775807) : loopF (ref03_Valid_L1 s) BIG 0 = some (if s.all okByte then .fall () else .ret false) := path_loop s h
theorem ref_valid_eq (s : Str) (h : s.length ≤ 9223372036854775807) : ref03_Valid s = some (okName s) := by
 unfold ref03_Valid okName
 rw [ref_loop s h]
 simp only [Option.bind_some]
 have e1 : decide ((s.length : Int) ≥ 1) = decide (1 ≤ s.length) := by
  rw [Bool.eq_iff_iff]; simp only [decide_eq_true_eq]; omega
 have e2 : decide ((s.length : Int) ≤ 64) = decide (s.length ≤ 64) := by
  rw [Bool.eq_iff_iff]; simp only [decide_eq_true_eq]; omega
 rw [e1, e2]
 simp only [bne]
 cases decide (1 ≤ s.length) <;> cases decide (s.length ≤ 64) <;> cases (s == [46]) <;> cases (s == [46, 46]) <;> cases s.all okByte <;> simp
theorem refnums_eq (x : api_Dir) : ref07_Numbers x = some (okNums x) := by
 unfold ref07_Numbers ref07_sum ref07_in okNums okIn okBits
 simp only [Option.bind_some]
 generalize ((x.Type_ == -1) || (decide (x.Type_ ≥ 0) && decide (x.Type_ ≤ 65534))) = a1
 generalize ((x.Dev_ == -1) || (decide (x.Dev_ ≥ 0) && decide (x.Dev_ ≤ 4294967294))) = a2
 generalize ((x.Qid_.Type_ == -1) || (decide (x.Qid_.Type_ ≥ 0) && (andI .i64 x.Qid_.Type_ 232 == x.Qid_.Type_))) = a3
 generalize ((x.Qid_.Vers_ == -1) || (decide (x.Qid_.Vers_ ≥ 0) && decide (x.Qid_.Vers_ ≤ 2147483647))) = a4
 generalize ((x.Qid_.Path_ == -1) || (decide (x.Qid_.Path_ ≥ 0) && decide (x.Qid_.Path_ ≤ 1099511627776))) = a5
 generalize ((x.Mode_ == -1) || (decide (x.Mode_ ≥ 0) && (andI .i64 x.Mode_ 3892314623 == x.Mode_))) = a6
 generalize ((x.Atime_ == -1) || (decide (x.Atime_ ≥ 0) && decide (x.Atime_ ≤ 1099511627776))) = a7
 generalize ((x.Mtime_ == -1) || (decide (x.Mtime_ ≥ 0) && decide (x.Mtime_ ≤ 1099511627776))) = a8
 generalize ((x.Length_ == -1) || (decide (x.Length_ ≥ 0) && decide (x.Length_ ≤ 9007199254740991))) = a9
 cases a1 <;> cases a2 <;> cases a3 <;> cases a4 <;> cases a5 <;> cases a6 <;> cases a7 <;> cases a8 <;> cases a9 <;> rfl
theorem refcheck_eq (x : api_Dir) (hn : x.Name_.length ≤ 9223372036854775807) : ref07_Check x = some (checkR x) := by
 unfold ref07_Check checkR
 rw [refnums_eq, ref_valid_eq _ hn]
 simp only [Option.bind_some]
 have em : ∀ n : Nat, decide ((n : Int) > 64) = !decide (n ≤ 64) := fun n => by
  rw [Bool.eq_iff_iff]
  simp only [Bool.not_eq_true', decide_eq_true_eq, decide_eq_false_iff_not]
  omega
 rw [em, em, em]
 unfold okTexts
 cases okNums x <;> cases (x.Name_ == []) <;> cases (x.Name_ == [47]) <;> cases okName x.Name_ <;> cases decide (x.Uid_.length ≤ 64) <;> cases decide (x.Gid_.length ≤ 64) <;> cases decide (x.Muid_.length ≤ 64) <;> simp
theorem little_eq (n : Int) (w : Nat) (hw : w ≤ 8) : ref07_little n (w : Int) = some (leB n w) := by
 have hB : BIG = 18446744073709551616 := rfl
 unfold ref07_little
 have h := loop_traj (body := ref07_little_L1 (w : Int) n) (fun i => (leB n i, (i : Int))) w (by omega) (b := leB n w) (fun i hi => ?_) ?_
 ·have e : leB n 0 = [] := rfl
  simp only [e] at h
  rw [show ((0 : Nat) : Int) = 0 from rfl] at h
  rw [h]; rfl
 ·unfold ref07_little_L1
  have h1 : decide ((i : Int) < (w : Int)) = true := by simp; omega
  simp only [h1, cond_true]
  rw [shr_byte n i (by omega)]
  simp only [Option.bind_some]
  rw [cat_eq (by rw [leB_len]; simp [bytesS]; omega)]
  simp only [Option.bind_some]
  rw [w64_eq (n := (i : Int) + 1) ⟨by omega, by omega⟩, wu8, leB_succ]
  rfl
 ·unfold ref07_little_L1
  have h1 : decide ((w : Int) < (w : Int)) = false := by simp
  simp only [h1, cond_false]
theorem counted_eq (s : Str) (h : s.length ≤ 100000) : ref07_counted s = some (textB s) := by
 unfold ref07_counted
 have h2 := little_eq (s.length : Int) 2 (by omega)
 rw [show ((2 : Nat) : Int) = 2 from rfl] at h2
 rw [h2]
 simp only [Option.bind_some]
 rw [cat_eq (by rw [leB_len]; omega)]
 rfl
theorem lit1 (n : Int) : ref07_little n 1 = some (leB n 1) := by
 have h := little_eq n 1 (by omega)
 rwa [show ((1 : Nat) : Int) = 1 from rfl] at h
theorem lit2 (n : Int) : ref07_little n 2 = some (leB n 2) := by
 have h := little_eq n 2 (by omega)
 rwa [show ((2 : Nat) : Int) = 2 from rfl] at h
theorem lit4 (n : Int) : ref07_little n 4 = some (leB n 4) := by
 have h := little_eq n 4 (by omega)
 rwa [show ((4 : Nat) : Int) = 4 from rfl] at h
theorem lit8 (n : Int) : ref07_little n 8 = some (leB n 8) := by
 have h := little_eq n 8 (by omega)
 rwa [show ((8 : Nat) : Int) = 8 from rfl] at h
theorem ref_put_eq (x : api_Dir) (hn : x.Name_.length ≤ 9223372036854775807) : ref07_Put x = some (putR x) := by
 unfold ref07_Put putR
 refine bind_eq (refcheck_eq x hn) ?_
 by_cases hc : checkR x = 0
 ·obtain ⟨hN, hT⟩ := checkR_zero x hc
  have htl := texts_len x hT
  have c : (checkR x != 0) = false := by simp [hc]
  rw [if_pos hc]
  refine cond_f c ?_
  have l1 := lit1
  have l2 := lit2
  have l4 := lit4
  have l8 := lit8
  have hcat : ∀ a b : Str, a.length ≤ 1000 → b.length ≤ 1000 → cat a b = some (a ++ b) := fun a b ha hb => cat_eq (by omega)
  refine bind_eq (l1 _) ?_
  refine bind_eq (l4 _) ?_
  refine bind_eq (hcat _ _ (by simp [leB_len]) (by simp [leB_len])) ?_
  refine bind_eq (l8 _) ?_
  refine bind_eq (hcat _ _ (by simp [leB_len]) (by simp [leB_len])) ?_
  refine bind_eq (l2 _) ?_
  refine bind_eq (l4 _) ?_
  refine bind_eq (hcat _ _ (by simp [leB_len]) (by simp [leB_len])) ?_
  refine bind_eq (hcat _ _ (by simp [leB_len]) (by simp [leB_len])) ?_
  refine bind_eq (l4 _) ?_
  refine bind_eq (hcat _ _ (by simp [leB_len]) (by simp [leB_len])) ?_
  refine bind_eq (l8 _) ?_
  refine bind_eq (hcat _ _ (by simp [leB_len]) (by simp [leB_len])) ?_
  refine bind_eq (l8 _) ?_
  refine bind_eq (hcat _ _ (by simp [leB_len]) (by simp [leB_len])) ?_
  refine bind_eq (l8 _) ?_
  refine bind_eq (hcat _ _ (by simp [leB_len]) (by simp [leB_len])) ?_
  refine bind_eq (counted_eq x.Name_ (by omega)) ?_
  refine bind_eq (hcat _ _ (by simp [leB_len]) (by simp [textB_len]; omega)) ?_
  refine bind_eq (counted_eq x.Uid_ (by omega)) ?_
  refine bind_eq (hcat _ _ (by simp [leB_len, textB_len]; omega) (by simp [textB_len]; omega)) ?_
  refine bind_eq (counted_eq x.Gid_ (by omega)) ?_
  refine bind_eq (hcat _ _ (by simp [leB_len, textB_len]; omega) (by simp [textB_len]; omega)) ?_
  refine bind_eq (counted_eq x.Muid_ (by omega)) ?_
  refine bind_eq (hcat _ _ (by simp [leB_len, textB_len]; omega) (by simp [textB_len]; omega)) ?_
  have e : leB x.Type_ 2 ++ leB x.Dev_ 4 ++ (leB x.Qid_.Type_ 1 ++ leB x.Qid_.Vers_ 4 ++ leB x.Qid_.Path_ 8) ++ leB x.Mode_ 4 ++ leB x.Atime_ 8 ++ leB x.Mtime_ 8 ++ leB x.Length_ 8 ++ textB x.Name_ ++ textB x.Uid_ ++ textB x.Gid_ ++ textB x.Muid_ = bodyB x := by
   simp [bodyB, numsB]
  rw [e]
  refine bind_eq (l2 _) ?_
  refine bind_eq (cat_eq (by rw [leB_len, bodyB_len]; omega)) ?_
  simp only [putB]
 ·have c : (checkR x != 0) = true := by simp [hc]
  rw [if_neg hc]
  exact cond_t c rfl
end Go.Proofs.YtolgkhjkdadhiaaGreat
namespace Go.Proofs.YtolgkhjkdadhiaaGreat
open Go.Rt Go.RowKit
theorem byteAt_nat (n i : Nat) : byteAt (n : Int) i = ((n / 2 ^ (8 * i) % 256 : Nat) : Int) := by
 unfold byteAt
 rw [Int.fdiv_eq_ediv_of_nonneg _ (Int.le_of_lt (Int.pow_pos (by omega)))]
 simp
theorem wrap_tmod (q : Nat) : IntKind.u8.wrap ((q : Int).tmod 256) = ((q % 256 : Nat) : Int) := by
 rw [wu8, Int.tmod_eq_emod_of_nonneg (Int.natCast_nonneg q)]
 omega
theorem wrap_tdiv (q : Nat) (h : q ≤ 9223372036854775807) : IntKind.i64.wrap ((q : Int).tdiv 256) = ((q / 256 : Nat) : Int) := by
 rw [Int.tdiv_eq_ediv_of_nonneg (Int.natCast_nonneg q), wi64_eq ⟨by omega, by omega⟩]
 omega
theorem v02 (n w : Nat) (h1 : 1 ≤ w) (h8 : w ≤ 8) (hn : n < 2 ^ (8 * w)) (hM : n ≤ 9223372036854775807) : ref02_Put (n : Int) (w : Int) = some (leB (n : Int) w, 0) := by
 have hB : BIG = 18446744073709551616 := rfl
 unfold ref02_Put ref02_valid
 rw [Option.bind_some]
 refine cond_f (by simp; omega) ?_
 have h := loop_traj (body := ref02_Put_L1 (w : Int)) (fun i => (leB (n : Int) i, ((n / 2 ^ (8 * i) : Nat) : Int), (i : Int))) w (by omega) (b := (leB (n : Int) w, 0)) (fun i hi => ?_) ?_
 ·have e : leB (n : Int) 0 = [] := rfl
  simp only [e, Nat.mul_zero, Nat.pow_zero, Nat.div_one] at h
  exact bind_eq h (cond_f rfl rfl)
 ·unfold ref02_Put_L1
  have hv : (0 : Int) ≤ ((n / 2 ^ (8 * i) : Nat) : Int) := Int.natCast_nonneg _
  refine cond_t (by simp only [Bool.and_eq_true, decide_eq_true_eq]; exact ⟨by omega, hv⟩) ?_
  have hd : n / 2 ^ (8 * i) ≤ n := Nat.div_le_self _ _
  have e1 : IntKind.u8.wrap (((n / 2 ^ (8 * i) : Nat) : Int).tmod 256) = byteAt (n : Int) i := by rw [byteAt_nat, wrap_tmod]
  have e2 : IntKind.i64.wrap (((n / 2 ^ (8 * i) : Nat) : Int).tdiv 256) = ((n / 2 ^ (8 * (i + 1)) : Nat) : Int) := by
   rw [wrap_tdiv _ (by omega), Nat.div_div_eq_div_mul, show 8 * (i + 1) = 8 * i + 8 by omega, Nat.pow_add]
  show Option.bind (cat (leB (n : Int) i) (bytesS [IntKind.u8.wrap (((n / 2 ^ (8 * i) : Nat) : Int).tmod 256)])) _ = _
  rw [e1]
  refine bind_eq (cat_eq (by rw [leB_len]; simp [bytesS]; omega)) ?_
  show some (Step.next (leB (n : Int) i ++ bytesS [byteAt (n : Int) i], IntKind.i64.wrap (((n / 2 ^ (8 * i) : Nat) : Int).tdiv 256), w64 ((i : Int) + 1))) = _
  rw [e2, w64_eq ⟨by omega, by omega⟩, leB_succ]
  rfl
 ·unfold ref02_Put_L1
  refine cond_f (by simp) ?_
  show some (Step.done (leB (n : Int) w, ((n / 2 ^ (8 * w) : Nat) : Int))) = _
  rw [Nat.div_eq_of_lt hn]
  rfl
theorem vnum {w : Str} {n : Int} {k : Nat} {t : Str} (h1 : 1 ≤ k) (h8 : k ≤ 8) (he : encN n k = some t) (hn : n ≤ 9223372036854775807) (h : w.length + t.length ≤ 9223372036854775807) : ref09_num ⟨w, 0⟩ n (k : Int) = some ⟨w ++ t, 0⟩ := by
 obtain ⟨a, rfl⟩ := encN_some he
 unfold fitsW at a
 simp only [Bool.and_eq_true, Bool.or_eq_true, decide_eq_true_eq] at a
 obtain ⟨m, rfl⟩ : ∃ m : Nat, n = (m : Int) := ⟨n.toNat, by omega⟩
 have hlt : m < 2 ^ (8 * k) := by
  rcases a.2 with h | h
  ·have : k = 8 := by omega
   subst this
   show m < 18446744073709551616
   omega
  ·exact_mod_cast h
 unfold ref09_num
 exact bind_eq (v02 m k h1 h8 hlt (by omega)) (bind_eq (cond_t rfl (bind_eq (cat_eq h) rfl)) rfl)
theorem vtext {w s t : Str} (he : encT s = some t) (h : w.length + t.length ≤ 9223372036854775807) : ref09_text ⟨w, 0⟩ s = some ⟨w ++ t, 0⟩ := by
 obtain ⟨a, rfl⟩ := encT_some he
 have e := v02 s.length 2 (by omega) (by omega) (by omega) (by omega)
 unfold ref09_text ref02_PutText
 refine bind_eq (a := (textB s, 0)) (bind_eq e (cond_f rfl (bind_eq (cat_eq (by rw [leB_len]; omega)) rfl))) (bind_eq (cond_t rfl (bind_eq (cat_eq h) rfl)) rfl)
end Go.Proofs.YtolgkhjkdadhiaaGreat
namespace Go.Proofs.YtolgkhjkdadhiaaGreat
open Go.Rt Go.RowKit
theorem vqid {w : Str} {q : api_Qid} {t : Str} (he : encQ q = some t) (hq : qle q) (h : w.length + t.length ≤ 9223372036854775807) : ref09_qid ⟨w, 0⟩ q = some ⟨w ++ t, 0⟩ := by
 obtain ⟨a, b, c, rfl⟩ := encQ_some he
 simp only [List.length_append] at h
 unfold ref09_qid
 refine bind_eq (vnum (k := 1) (t := leB q.Type_ 1) (by omega) (by omega) (encN_of a) hq.2.1 (by omega)) ?_
 refine bind_eq (vnum (k := 4) (t := leB q.Vers_ 4) (by omega) (by omega) (encN_of b) hq.2.2 (by simp only [List.length_append]; omega)) ?_
 refine bind_eq (vnum (k := 8) (t := leB q.Path_ 8) (by omega) (by omega) (encN_of c) hq.1 (by simp only [List.length_append]; omega)) ?_
 simp only [List.append_assoc]
theorem vnames_loop (m : api_Msg) (hl : m.Names_.length ≤ 65535) : ∀ (k fuel i : Nat) (w t : Str), i + k = m.Names_.length → k < fuel → encs encT (m.Names_.drop i) = some t → w.length + t.length ≤ 9223372036854775807 → loopF (ref09_list_L1 m) fuel ((i : Int), ⟨w, 0⟩) = some ⟨w ++ t, 0⟩
 | 0, fuel + 1, i, w, t, hi, _, he, _ => by
  rw [show m.Names_.drop i = [] from List.drop_eq_nil_of_le (by omega)] at he
  cases he
  refine loop_done ?_
  unfold ref09_list_L1
  exact cond_f (by simp; omega) (by simp)
 | k + 1, fuel + 1, i, w, t, hi, hk, he, h => by
  have hlt : i < m.Names_.length := by omega
  rw [List.drop_eq_getElem_cons hlt] at he
  obtain ⟨a, b, h1, h2, rfl⟩ := encs_cons he
  simp only [List.length_append] at h
  have ih := vnames_loop m hl k fuel (i + 1) (w ++ a) b (by omega) (by omega) h2 (by simp only [List.length_append]; omega)
  rw [List.append_assoc] at ih
  refine loop_next ?_ ih
  unfold ref09_list_L1
  refine cond_t (by simp; omega) (bind_eq (getI_lt hlt) (bind_eq (vtext h1 (by omega)) ?_))
  rw [w64_eq (n := (i : Int) + 1) ⟨by omega, by omega⟩]; rfl
theorem vqids_loop (m : api_Msg) (hq : ∀ q ∈ m.Qids_, qle q) (hl : m.Qids_.length ≤ 65535) : ∀ (k fuel i : Nat) (w t : Str), i + k = m.Qids_.length → k < fuel → encs encQ (m.Qids_.drop i) = some t → w.length + t.length ≤ 9223372036854775807 → loopF (ref09_list_L2 m) fuel ((i : Int), ⟨w, 0⟩) = some ⟨w ++ t, 0⟩
 | 0, fuel + 1, i, w, t, hi, _, he, _ => by
  rw [show m.Qids_.drop i = [] from List.drop_eq_nil_of_le (by omega)] at he
  cases he
  refine loop_done ?_
  unfold ref09_list_L2
  exact cond_f (by simp; omega) (by simp)
 | k + 1, fuel + 1, i, w, t, hi, hk, he, h => by
  have hlt : i < m.Qids_.length := by omega
  rw [List.drop_eq_getElem_cons hlt] at he
  obtain ⟨a, b, h1, h2, rfl⟩ := encs_cons he
  simp only [List.length_append] at h
  have ih := vqids_loop m hq hl k fuel (i + 1) (w ++ a) b (by omega) (by omega) h2 (by simp only [List.length_append]; omega)
  rw [List.append_assoc] at ih
  refine loop_next ?_ ih
  unfold ref09_list_L2
  refine cond_t (by simp; omega) (bind_eq (getI_lt hlt) (bind_eq (vqid h1 (hq _ (List.getElem_mem hlt)) (by omega)) ?_))
  rw [w64_eq (n := (i : Int) + 1) ⟨by omega, by omega⟩]; rfl
def Lt.num : Lt → Int
 | .m => 1 | .v => 2 | .s => 3 | .a => 4 | .u => 5 | .x => 6 | .q => 7 | .f => 8 | .e => 9 | .o => 10 | .n => 11 | .w => 12
 | .W => 13 | .M => 14 | .i => 15 | .N => 16 | .p => 17 | .O => 18 | .c => 19 | .d => 20 | .S => 21 | .l => 22 | .t => 23
theorem text_all : (List.range 60).all (fun n => n == 0 || decide (ref04_Text (n : Int) = some (faultT (n : Int)))) = true := by kernel_rfl
theorem text_eq (n : Int) (h1 : 1 ≤ n) (h2 : n ≤ 59) : ref04_Text n = some (faultT n) := by
 have := List.all_eq_true.1 text_all n.toNat (by simp; omega)
 have h0 : (n.toNat == 0) = false := by simp; omega
 rw [h0, Bool.false_or, decide_eq_true_eq, show ((n.toNat : Nat) : Int) = n by omega] at this
 exact this
theorem vlist12 {m : api_Msg} {w t : Str} (he : encL encT m.Names_ = some t) (h : w.length + t.length ≤ 9223372036854775807) : ref09_list ⟨w, 0⟩ m 12 = some ⟨w ++ t, 0⟩ := by
 obtain ⟨hl, b, h1, rfl⟩ := encL_some he
 simp only [List.length_append] at h
 have hB : BIG = 18446744073709551616 := rfl
 unfold ref09_list
 refine bind_eq (a := ⟨w ++ (leB (m.Names_.length : Int) 2 ++ b), 0⟩) (cond_t rfl ?_) rfl
 refine bind_eq (vnum (k := 2) (by omega) (by omega) (len_enc _ hl) (by omega) (by omega)) ?_
 refine bind_eq (vnames_loop m hl m.Names_.length BIG 0 _ b (by omega) (by omega) h1 (by simp only [List.length_append]; omega)) ?_
 simp only [List.append_assoc]
theorem vlist13 {m : api_Msg} {w t : Str} (hq : ∀ q ∈ m.Qids_, qle q) (he : encL encQ m.Qids_ = some t) (h : w.length + t.length ≤ 9223372036854775807) : ref09_list ⟨w, 0⟩ m 13 = some ⟨w ++ t, 0⟩ := by
 obtain ⟨hl, b, h1, rfl⟩ := encL_some he
 simp only [List.length_append] at h
 have hB : BIG = 18446744073709551616 := rfl
 unfold ref09_list
 refine bind_eq (a := ⟨w ++ (leB (m.Qids_.length : Int) 2 ++ b), 0⟩) (cond_f rfl (cond_t rfl ?_)) rfl
 refine bind_eq (vnum (k := 2) (by omega) (by omega) (len_enc _ hl) (by omega) (by omega)) ?_
 refine bind_eq (vqids_loop m hq hl m.Qids_.length BIG 0 _ b (by omega) (by omega) h1 (by simp only [List.length_append]; omega)) ?_
 simp only [List.append_assoc]
theorem vlist20 {m : api_Msg} {w t : Str} (he : encD m.Data_ 4 = some t) (h : w.length + t.length ≤ 9223372036854775807) : ref09_list ⟨w, 0⟩ m 20 = some ⟨w ++ t, 0⟩ := by
 obtain ⟨a, rfl⟩ := encD_some he
 simp only [List.length_append] at h
 unfold ref09_list
 refine bind_eq (a := ⟨w ++ (leB (m.Data_.length : Int) 4 ++ m.Data_), 0⟩) (cond_f rfl (cond_f rfl (cond_t rfl ?_))) rfl
 refine bind_eq (vnum (k := 4) (t := leB (m.Data_.length : Int) 4) (by omega) (by omega) (encN_of a) (by omega) (by omega)) ?_
 refine bind_eq (cat_eq (by simp only [List.length_append]; omega)) ?_
 simp only [List.append_assoc]
theorem vlist21 {m : api_Msg} {w t : Str} (he : encS m.Stat_ = some t) (h : w.length + t.length ≤ 9223372036854775807) : ref09_list ⟨w, 0⟩ m 21 = some ⟨w ++ t, 0⟩ := by
 obtain ⟨a, rfl⟩ := encS_some he
 simp only [List.length_append] at h
 obtain ⟨l1, l2, l3, l4⟩ := texts_len m.Stat_ (checkR_zero m.Stat_ a).2
 have hlen := putB_len m.Stat_
 unfold ref09_list
 refine bind_eq (a := ⟨w ++ (leB ((putB m.Stat_).length : Int) 2 ++ putB m.Stat_), 0⟩) (cond_f rfl (cond_f rfl (cond_f rfl (cond_t rfl ?_)))) rfl
 refine bind_eq (ref_put_eq m.Stat_ (by omega)) ?_
 unfold putR
 rw [if_pos a]
 refine bind_eq (a := ⟨w, 0⟩) (cond_f rfl rfl) ?_
 refine bind_eq (vnum (n := ((putB m.Stat_).length : Int)) (k := 2) (t := leB ((putB m.Stat_).length : Int) 2) (by omega) (by omega) (len_enc (putB m.Stat_).length (by omega)) (by omega) (by omega)) ?_
 refine bind_eq (cat_eq (by simp only [List.length_append]; omega)) ?_
 simp only [List.append_assoc]
theorem vfield (k : Lt) (m : api_Msg) (w t : Str) (he : encF k m = some t) (hf : fine k m) (h : w.length + t.length ≤ 9223372036854775807) : ref09_field ⟨w, 0⟩ m k.num = some ⟨w ++ t, 0⟩ := by
 unfold ref09_field
 cases k with
 | m => exact bind_eq (vnum (k := 4) (by omega) (by omega) he hf h) rfl
 | v => exact bind_eq (vtext he h) rfl
 | s => exact bind_eq (vtext he h) rfl
 | a => exact bind_eq (vnum (k := 4) (by omega) (by omega) he hf h) rfl
 | u => exact bind_eq (vtext he h) rfl
 | x => exact bind_eq (vtext he h) rfl
 | q => exact bind_eq (vqid he hf h) rfl
 | f => exact bind_eq (vnum (k := 4) (by omega) (by omega) he hf h) rfl
 | e => exact bind_eq (text_eq m.Err_ hf.1 hf.2) (bind_eq (vtext he h) rfl)
 | o => exact bind_eq (vnum (k := 2) (by omega) (by omega) he hf h) rfl
 | n => exact bind_eq (vnum (k := 4) (by omega) (by omega) he hf h) rfl
 | w => exact bind_eq (vlist12 he h) rfl
 | W => exact bind_eq (vlist13 hf he h) rfl
 | M => exact bind_eq (vnum (k := 1) (by omega) (by omega) he hf h) rfl
 | i => exact bind_eq (vnum (k := 4) (by omega) (by omega) he hf h) rfl
 | N => exact bind_eq (vtext he h) rfl
 | p => exact bind_eq (vnum (k := 4) (by omega) (by omega) he hf h) rfl
 | O => exact bind_eq (vnum (k := 8) (by omega) (by omega) he hf h) rfl
 | c => exact bind_eq (vnum (k := 4) (by omega) (by omega) he hf h) rfl
 | d => exact bind_eq (vlist20 he h) rfl
 | S => exact bind_eq (vlist21 he h) rfl
 | l => exact bind_eq (vnum (k := 1) (by omega) (by omega) he hf h) rfl
 | t => exact bind_eq (vnum (k := 4) (by omega) (by omega) he hf h) rfl
theorem vput_loop (m : api_Msg) (L : List Lt) (hL : L.length ≤ 100) (b : Bool) : ∀ (k fuel i : Nat) (w t : Str), i + k = L.length → k < fuel → encA (L.drop i) m = some t → (∀ k ∈ L, fine k m) → w.length + t.length ≤ 9223372036854775807 → loopF (ref09_Put_L1 (L.map Lt.num, b) m) fuel ((i : Int), ⟨w, 0⟩) = some ⟨w ++ t, 0⟩
 | 0, fuel + 1, i, w, t, hi, _, he, _, _ => by
  rw [show L.drop i = [] from List.drop_eq_nil_of_le (by omega)] at he
  cases he
  refine loop_done ?_
  unfold ref09_Put_L1
  exact cond_f (by simp; omega) (by simp)
 | k + 1, fuel + 1, i, w, t, hi, hk, he, hf, h => by
  have hlt : i < L.length := by omega
  rw [List.drop_eq_getElem_cons hlt, encA_cons] at he
  obtain ⟨a, b', h1, h2, rfl⟩ := app2_some he
  simp only [List.length_append] at h
  have ih := vput_loop m L hL b k fuel (i + 1) (w ++ a) b' (by omega) (by omega) h2 hf (by simp only [List.length_append]; omega)
  rw [List.append_assoc] at ih
  refine loop_next ?_ ih
  unfold ref09_Put_L1
  refine cond_t (by simp; omega) (bind_eq (a := L[i].num) ?_ (bind_eq (vfield _ m w a h1 (hf _ (List.getElem_mem hlt)) (by omega)) ?_))
  ·show getI (L.map Lt.num) (i : Int) = _
   rw [getI_lt (by simpa using hlt)]
   simp
  ·rw [w64_eq (n := (i : Int) + 1) ⟨by omega, by omega⟩]; rfl
end Go.Proofs.YtolgkhjkdadhiaaGreat
namespace Go.Proofs.YtolgkhjkdadhiaaGreat
open Go.Rt Go.RowKit
def eqF (k : Lt) (m m' : api_Msg) : Prop := match k with
 | .m => m.Msize_ = m'.Msize_
 | .v => m.Version_ = m'.Version_
 | .s => m.Session_ = m'.Session_
 | .a => m.AuthFid_ = m'.AuthFid_
 | .u => m.User_ = m'.User_
 | .x => m.Attach_ = m'.Attach_
 | .q => m.Qid_ = m'.Qid_
 | .f => m.Fid_ = m'.Fid_
 | .e => m.Err_ = m'.Err_
 | .o => m.OldTag_ = m'.OldTag_
 | .n => m.NewFid_ = m'.NewFid_
 | .w => m.Names_ = m'.Names_
 | .W => m.Qids_ = m'.Qids_
 | .M => m.Mode_ = m'.Mode_
 | .i => m.Iounit_ = m'.Iounit_
 | .N => m.Name_ = m'.Name_
 | .p => m.Perm_ = m'.Perm_
 | .O => m.Offset_ = m'.Offset_
 | .c => m.Count_ = m'.Count_
 | .d => m.Data_ = m'.Data_
 | .S => m.Stat_ = m'.Stat_
 | .l => m.Lease_ = m'.Lease_
 | .t => m.Term_ = m'.Term_
theorem eqF_cp (k : Lt) (m' m : api_Msg) : eqF k (cpF k m' m) m' := by cases k <;> rfl
theorem eqF_other (k k' : Lt) (h : k ≠ k') (m' m x : api_Msg) : eqF k (cpF k' m' m) x ↔ eqF k m x := by cases k <;> cases k' <;> first | exact absurd rfl h | exact Iff.rfl
theorem eqF_cps (k : Lt) (m' : api_Msg) : ∀ (l : List Lt) (m : api_Msg), eqF k (cps l m' m) m' ↔ (k ∈ l ∨ eqF k m m')
 | [], m => by simp [cps]
 | j :: l, m => by
  show eqF k (cps l m' (cpF j m' m)) m' ↔ _
  rw [eqF_cps k m' l]
  by_cases h : k = j
  ·subst h
   simp [eqF_cp]
  ·rw [eqF_other k j h]
   simp [h]
theorem msg_ext (m m' : api_Msg) : m = m' ↔ m.Kind_ = m'.Kind_ ∧ m.Tag_ = m'.Tag_ ∧ ∀ k, eqF k m m' := by
 constructor
 ·rintro rfl
  exact ⟨rfl, rfl, fun k => by cases k <;> rfl⟩
 ·rintro ⟨h1, h2, h⟩
  have h_m : m.Msize_ = m'.Msize_ := h .m
  have h_v : m.Version_ = m'.Version_ := h .v
  have h_s : m.Session_ = m'.Session_ := h .s
  have h_a : m.AuthFid_ = m'.AuthFid_ := h .a
  have h_u : m.User_ = m'.User_ := h .u
  have h_x : m.Attach_ = m'.Attach_ := h .x
  have h_q : m.Qid_ = m'.Qid_ := h .q
  have h_f : m.Fid_ = m'.Fid_ := h .f
  have h_e : m.Err_ = m'.Err_ := h .e
  have h_o : m.OldTag_ = m'.OldTag_ := h .o
  have h_n : m.NewFid_ = m'.NewFid_ := h .n
  have h_w : m.Names_ = m'.Names_ := h .w
  have h_W : m.Qids_ = m'.Qids_ := h .W
  have h_M : m.Mode_ = m'.Mode_ := h .M
  have h_i : m.Iounit_ = m'.Iounit_ := h .i
  have h_N : m.Name_ = m'.Name_ := h .N
  have h_p : m.Perm_ = m'.Perm_ := h .p
  have h_O : m.Offset_ = m'.Offset_ := h .O
  have h_c : m.Count_ = m'.Count_ := h .c
  have h_d : m.Data_ = m'.Data_ := h .d
  have h_S : m.Stat_ = m'.Stat_ := h .S
  have h_l : m.Lease_ = m'.Lease_ := h .l
  have h_t : m.Term_ = m'.Term_ := h .t
  cases m; cases m'
  simp only at h1 h2 h_m h_v h_s h_a h_u h_x h_q h_f h_e h_o h_n h_w h_W h_M h_i h_N h_p h_O h_c h_d h_S h_l h_t
  subst h1 h2 h_m h_v h_s h_a h_u h_x h_q h_f h_e h_o h_n h_w h_W h_M h_i h_N h_p h_O h_c h_d h_S h_l h_t
  rfl
def zeroF (k : Lt) (m : api_Msg) : Bool := match k with
 | .m => decide (m.Msize_ = 0)
 | .v => decide (m.Version_ = [])
 | .s => decide (m.Session_ = [])
 | .a => decide (m.AuthFid_ = 0)
 | .u => decide (m.User_ = [])
 | .x => decide (m.Attach_ = [])
 | .q => decide (m.Qid_ = (api_Qid.mk 0 0 0))
 | .f => decide (m.Fid_ = 0)
 | .e => decide (m.Err_ = 0)
 | .o => decide (m.OldTag_ = 0)
 | .n => decide (m.NewFid_ = 0)
 | .w => decide (m.Names_ = [])
 | .W => decide (m.Qids_ = [])
 | .M => decide (m.Mode_ = 0)
 | .i => decide (m.Iounit_ = 0)
 | .N => decide (m.Name_ = [])
 | .p => decide (m.Perm_ = 0)
 | .O => decide (m.Offset_ = 0)
 | .c => decide (m.Count_ = 0)
 | .d => decide (m.Data_ = [])
 | .S => decide (m.Stat_ = (api_Dir.mk 0 0 (api_Qid.mk 0 0 0) 0 0 0 0 [] [] [] []))
 | .l => decide (m.Lease_ = 0)
 | .t => decide (m.Term_ = 0)
theorem zeroF_eq (k : Lt) (m : api_Msg) : zeroF k m = true ↔ eqF k (zeroM m.Kind_ m.Tag_) m := by
 cases k <;> (unfold zeroF eqF; rw [decide_eq_true_eq]; exact eq_comm)
theorem cps_kind (m' : api_Msg) : ∀ (l : List Lt) (m : api_Msg), (cps l m' m).Kind_ = m.Kind_ ∧ (cps l m' m).Tag_ = m.Tag_
 | [], _ => ⟨rfl, rfl⟩
 | k :: l, m => by
  obtain ⟨h1, h2⟩ := cps_kind m' l (cpF k m' m)
  exact ⟨h1.trans (cp_kind k m' m).1, h2.trans (cp_kind k m' m).2⟩
theorem only_iff (l : List Lt) (m : api_Msg) : cps l m (zeroM m.Kind_ m.Tag_) = m ↔ ∀ k, k ∈ l ∨ zeroF k m = true := by
 rw [msg_ext]
 have hk := cps_kind m l (zeroM m.Kind_ m.Tag_)
 constructor
 ·rintro ⟨_, _, h⟩ k
  rw [zeroF_eq]
  exact (eqF_cps k m l _).1 (h k)
 ·intro h
  refine ⟨hk.1, hk.2, fun k => (eqF_cps k m l _).2 ?_⟩
  have := h k
  rwa [zeroF_eq] at this
def Lt.ref : Lt → Nat
 | .m => 122
 | .v => 118
 | .s => 83
 | .a => 97
 | .u => 117
 | .x => 116
 | .q => 113
 | .f => 102
 | .e => 69
 | .o => 111
 | .n => 110
 | .w => 78
 | .W => 81
 | .M => 109
 | .i => 105
 | .N => 101
 | .p => 112
 | .O => 79
 | .c => 99
 | .d => 100
 | .S => 115
 | .l => 108
 | .t => 84
def Lt.r8 (k : Lt) : UInt8 := UInt8.ofNat k.ref
theorem Lt.r8_nat (k : Lt) : k.r8.toNat = k.ref := by cases k <;> rfl
def refB (l : List Lt) : Str := l.map Lt.r8
theorem refB_byte (l : List Lt) (i : Nat) (h : i < l.length) : byteI (refB l) (i : Int) = some (l[i].ref : Int) := by
 rw [byteI_lt (by simp only [refB, List.length_map]; exact h)]
 simp [refB, Lt.r8_nat]
theorem ref_inj {j k : Lt} (h : j.ref = k.ref) : j = k := by
 cases j <;> cases k <;> first | rfl | exact absurd h (by decide)
def allL : List Lt := [.f, .n, .a, .o, .m, .v, .u, .x, .w, .W, .q, .i, .M, .p, .N, .O, .c, .d, .S, .e, .l, .t, .s]
theorem mem_all (k : Lt) : k ∈ allL := by cases k <;> decide
theorem refzero_eq (k : Lt) (m : api_Msg) : ref08_Zero m (k.ref : Int) = some (zeroF k m) := by
 unfold ref08_Zero ref08_zeroLate
 cases k with
 | m => rfl
 | v =>
  show some (m.Version_ == []) = some (decide (m.Version_ = []))
  rw [Bool.beq_eq_decide_eq]
 | s =>
  show some (m.Session_ == []) = some (decide (m.Session_ = []))
  rw [Bool.beq_eq_decide_eq]
 | a => rfl
 | u =>
  show some (m.User_ == []) = some (decide (m.User_ = []))
  rw [Bool.beq_eq_decide_eq]
 | x =>
  show some (m.Attach_ == []) = some (decide (m.Attach_ = []))
  rw [Bool.beq_eq_decide_eq]
 | q => rfl
 | f => rfl
 | e => rfl
 | o => rfl
 | n => rfl
 | w =>
  show some ((m.Names_.length : Int) == 0) = some (decide (m.Names_ = []))
  cases m.Names_ with
  | nil => rfl
  | cons _ l => simp; omega
 | W =>
  show some ((m.Qids_.length : Int) == 0) = some (decide (m.Qids_ = []))
  cases m.Qids_ with
  | nil => rfl
  | cons _ l => simp; omega
 | M => rfl
 | i => rfl
 | N =>
  show some (m.Name_ == []) = some (decide (m.Name_ = []))
  rw [Bool.beq_eq_decide_eq]
 | p => rfl
 | O => rfl
 | c => rfl
 | d =>
  show some (m.Data_ == []) = some (decide (m.Data_ = []))
  rw [Bool.beq_eq_decide_eq]
 | S => rfl
 | l => rfl
 | t => rfl
theorem uses_eq (kd : Int) (l : List Lt) (k : Lt) (hf : ref08_Fields kd = some (refB l)) (hl : l.length ≤ 100) : ref08_Uses kd (k.ref : Int) = some (decide (k ∈ l)) := by
 have hB : BIG = 18446744073709551616 := rfl
 have hlen : (refB l).length = l.length := by simp [refB]
 unfold ref08_Uses
 refine bind_eq hf (bind_eq (loop_all3 l (fun j => if j = k then some true else none) (by omega) (fun i hi => ?_) ?_) ?_)
 ·unfold ref08_Uses_L1
  refine cond_t (by rw [hlen]; simp; omega) (bind_eq (refB_byte l i hi) ?_)
  rw [w64_eq (n := (i : Int) + 1) ⟨by omega, by omega⟩]
  by_cases h : l[i] = k
  ·simp only [h, if_true]; exact cond_t (by simp) rfl
  ·simp only [h, if_false]
   refine cond_f ?_ rfl
   have : l[i].ref ≠ k.ref := fun h' => h (ref_inj h')
   simp; omega
 ·unfold ref08_Uses_L1
  exact cond_f (by rw [hlen]; simp) rfl
 ·by_cases h : k ∈ l
  ·have : l.findSome? (fun j => if j = k then some true else none) = some true := by
    cases e : l.findSome? (fun j => if j = k then some true else none) with
    | none => have := find_none e k h; simp at this
    | some b =>
     obtain ⟨y, _, hy⟩ := List.exists_of_findSome?_eq_some e
     split at hy
     ·exact hy.symm
     ·cases hy
   rw [this]; simp [h]
  ·have : l.findSome? (fun j => if j = k then some true else none) = none := by
    cases e : l.findSome? (fun j => if j = k then some true else none) with
    | none => rfl
    | some b =>
     obtain ⟨y, hy', hy⟩ := List.exists_of_findSome?_eq_some e
     split at hy
     ·rename_i hk; subst hk; exact absurd hy' h
     ·cases hy
   rw [this]; simp [h]
theorem refnum_eq (x b : Int) : ref08_number x b = some (inR x 0 b) := by
 unfold ref08_number inR
 by_cases h : 0 ≤ x ∧ x ≤ b
 ·rw [if_pos h]; exact cond_f (by simp; omega) rfl
 ·rw [if_neg h]; exact cond_t (by simp; omega) rfl
theorem reflen_eq (s : Str) (n : Int) : ref08_length s n = some (shortR s n) := by
 unfold ref08_length shortR
 by_cases h : (s.length : Int) ≤ n
 ·rw [if_pos h]; exact cond_f (by simp; omega) rfl
 ·rw [if_neg h]; exact cond_t (by simp; omega) rfl
theorem refnames_eq (l : List Str) (hl : ∀ s ∈ l, s.length ≤ 9223372036854775807) : ref08_names l = some (namesR l) := by
 unfold ref08_names namesR
 have hB : BIG = 18446744073709551616 := rfl
 by_cases h : l.length > 16
 ·rw [if_pos h]; exact cond_t (by simp; omega) rfl
 ·rw [if_neg h]
  refine cond_f (by simp; omega) (bind_eq (loop_all3 l name1 (by omega) (fun i hi => ?_) ?_) ?_)
  ·unfold ref08_names_L1
   refine cond_t (by simp; omega) (bind_eq (getI_lt hi) ?_)
   rw [getI_lt hi, w64_eq (n := (i : Int) + 1) ⟨by omega, by omega⟩, Option.bind_some, ref_valid_eq _ (hl _ (List.getElem_mem hi))]
   generalize l[i] = s
   unfold name1
   by_cases h1 : s = [46, 46]
   ·subst h1; rfl
   ·have h2 : (!(s == [46, 46])) = true := by simpa using h1
    rw [h2]
    cases okName s <;> simp [h1]
  ·unfold ref08_names_L1
   exact cond_f (by simp) rfl
  ·cases l.findSome? name1 <;> rfl
end Go.Proofs.YtolgkhjkdadhiaaGreat
namespace Go.Proofs.YtolgkhjkdadhiaaGreat
open Go.Rt Go.RowKit
def badT (T : Int) : Bool := (((decide (T < 0)) || (decide (T > 255))) || ((T.tmod 8) != 0)) || (((IntKind.i64.wrap (T.tdiv 16)).tmod 2) != 0)
theorem bad_all : (List.range 256).all (fun n => badT (n : Int) == (decide ((n : Int) < 0) || (andNotI .i64 (n : Int) 232 != 0))) = true := by kernel_rfl
theorem bad_eq (T : Int) (h : T ≤ 9223372036854775807) : badT T = (decide (T < 0) || (andNotI .i64 T 232 != 0)) := by
 by_cases h0 : T < 0
 ·unfold badT
  have : decide (T < 0) = true := by simpa using h0
  rw [this]; simp
 ·by_cases h1 : T ≤ 255
  ·have := List.all_eq_true.1 bad_all T.toNat (by simp; omega)
   rw [show ((T.toNat : Nat) : Int) = T by omega] at this
   simpa using this
  ·have e1 : badT T = true := by
    unfold badT
    have : decide (T > 255) = true := by simp; omega
    rw [this]; simp
   have e2 : (andNotI .i64 T 232 != 0) = true := by
    cases e : (andNotI .i64 T 232 != 0) with
    | true => rfl
    | false =>
     have hz : andNotI .i64 T 232 = 0 := by simpa using e
     have hb : okBits T ((232 : Nat) : Int) = true := by
      have hw := within_eq T 232 (by omega) h
      unfold stat_within at hw
      rw [← Option.some.inj hw]
      simp only [Bool.or_eq_true, Bool.and_eq_true, beq_iff_eq, decide_eq_true_eq]
      exact .inr ⟨by omega, hz⟩
     have := bits_in T 232 (by omega) h hb
     unfold okIn at this
     simp only [Bool.or_eq_true, Bool.and_eq_true, beq_iff_eq, decide_eq_true_eq] at this
     omega
   rw [e1, e2]; simp
theorem two_first (a b c d : Int) : firstR [inR a 0 b, inR c 0 d] = if (decide (a < 0) || decide (a > b) || decide (c < 0) || decide (c > d)) then 5 else 0 := by
 unfold firstR first1 inR
 by_cases h1 : 0 ≤ a ∧ a ≤ b <;> by_cases h2 : 0 ≤ c ∧ c ≤ d
 ·have : (decide (a < 0) || decide (a > b) || decide (c < 0) || decide (c > d)) = false := by simp; omega
  simp [h1, h2, this]
 ·have : (decide (a < 0) || decide (a > b) || decide (c < 0) || decide (c > d)) = true := by simp; omega
  simp [h1, h2, this]
 ·have : (decide (a < 0) || decide (a > b) || decide (c < 0) || decide (c > d)) = true := by simp; omega
  simp [h1, this]
 ·have : (decide (a < 0) || decide (a > b) || decide (c < 0) || decide (c > d)) = true := by simp; omega
  simp [h1, this]
theorem refqid_eq (q : api_Qid) (h : q.Type_ ≤ 9223372036854775807) : ref08_qid q = some (qidR q) := by
 unfold ref08_qid qidR
 rw [← bad_eq q.Type_ h, two_first]
 show (bif ((((badT q.Type_ || decide (q.Vers_ < 0)) || decide (q.Vers_ > 2147483647)) || decide (q.Path_ < 0)) || decide (q.Path_ > 1099511627776)) then some 5 else some 0) = _
 cases badT q.Type_ <;> cases decide (q.Vers_ < 0) <;> cases decide (q.Vers_ > 2147483647) <;> cases decide (q.Path_ < 0) <;> cases decide (q.Path_ > 1099511627776) <;> rfl
theorem refqids_eq (l : List api_Qid) (hq : ∀ q ∈ l, q.Type_ ≤ 9223372036854775807) : ref08_qids l = some (qidsR l) := by
 unfold ref08_qids qidsR
 have hB : BIG = 18446744073709551616 := rfl
 by_cases h : l.length > 16
 ·rw [if_pos h]; exact cond_t (by simp; omega) rfl
 ·rw [if_neg h]
  refine cond_f (by simp; omega) (bind_eq (loop_all3 l qid1 (by omega) (fun i hi => ?_) ?_) ?_)
  ·unfold ref08_qids_L1
   refine cond_t (by simp; omega) (bind_eq (getI_lt hi) (bind_eq (refqid_eq _ (hq _ (List.getElem_mem hi))) ?_))
   rw [w64_eq (n := (i : Int) + 1) ⟨by omega, by omega⟩]
   unfold qid1 first1
   by_cases hy : qidR l[i] = 0
   ·rw [if_pos hy]; exact cond_f (by simp [hy]) rfl
   ·rw [if_neg hy]; exact cond_t (by simp [hy]) rfl
  ·unfold ref08_qids_L1
   exact cond_f (by simp) rfl
  ·cases l.findSome? qid1 <;> rfl
end Go.Proofs.YtolgkhjkdadhiaaGreat
namespace Go.Proofs.YtolgkhjkdadhiaaGreat
open Go.Rt Go.RowKit
def faultR (k : Lt) (m : api_Msg) : Int := match k with
 | .f => inR m.Fid_ 0 4294967294 | .n => inR m.NewFid_ 0 4294967294 | .a => if m.Kind_ = 102 then inR m.AuthFid_ 0 4294967294 else inR m.AuthFid_ 0 4294967295
 | .o => inR m.OldTag_ 0 65534 | .m => inR m.Msize_ 0 4294967295 | .v => shortR m.Version_ 64 | .u => shortR m.User_ 32 | .x => shortR m.Attach_ 1024
 | .w => namesR m.Names_ | .W => qidsR m.Qids_ | .q => qidR m.Qid_ | .i => inR m.Iounit_ 0 8192 | .M => inR m.Mode_ 0 255 | .p => inR m.Perm_ 0 4294967295
 | .N => if okName m.Name_ then 0 else 6 | .O => inR m.Offset_ 0 9007199254740991 | .c => inR m.Count_ 0 8192 | .d => shortR m.Data_ 8168 | .S => checkR m.Stat_
 | .e => inR m.Err_ 1 59 | .l => inR m.Lease_ 0 2 | .t => inR m.Term_ 0 1048576 | .s => shortR m.Session_ 64
theorem reffault_eq (k : Lt) (m : api_Msg) (h : m.ok) : ref08_fault m (k.ref : Int) = some (faultR k m) := by
 obtain ⟨_, h2, _, h4, h5⟩ := h.small
 unfold ref08_fault ref08_faultLate
 cases k with
 | f => exact bind_eq (refnum_eq _ _) rfl
 | n => exact bind_eq (refnum_eq _ _) rfl
 | o => exact bind_eq (refnum_eq _ _) rfl
 | m => exact bind_eq (refnum_eq _ _) rfl
 | i => exact bind_eq (refnum_eq _ _) rfl
 | M => exact bind_eq (bind_eq (refnum_eq _ _) rfl) rfl
 | p => exact bind_eq (bind_eq (refnum_eq _ _) rfl) rfl
 | O => exact bind_eq (bind_eq (refnum_eq _ _) rfl) rfl
 | c => exact bind_eq (bind_eq (refnum_eq _ _) rfl) rfl
 | l => exact bind_eq (bind_eq (refnum_eq _ _) rfl) rfl
 | t => exact bind_eq (bind_eq (refnum_eq _ _) rfl) rfl
 | v => exact bind_eq (reflen_eq _ _) rfl
 | u => exact bind_eq (reflen_eq _ _) rfl
 | x => exact bind_eq (reflen_eq _ _) rfl
 | d => exact bind_eq (bind_eq (reflen_eq _ _) rfl) rfl
 | s => exact bind_eq (bind_eq (reflen_eq _ _) rfl) rfl
 | w => exact bind_eq (refnames_eq _ h2) rfl
 | W => exact bind_eq (refqids_eq _ fun q hq => (h.qids q hq).1.2) rfl
 | q => exact bind_eq (refqid_eq _ h.qid.1.2) rfl
 | S => exact bind_eq (bind_eq (refcheck_eq _ h5.2.2.2.2.2.2.2.1) rfl) rfl
 | a =>
  show (bif (m.Kind_ == 102) then Option.bind (ref08_number m.AuthFid_ 4294967294) _ else Option.bind (ref08_number m.AuthFid_ 4294967295) _) = some (if m.Kind_ = 102 then inR m.AuthFid_ 0 4294967294 else inR m.AuthFid_ 0 4294967295)
  by_cases hk : m.Kind_ = 102
  ·rw [if_pos hk]; exact cond_t (by simpa using hk) (bind_eq (refnum_eq _ _) rfl)
  ·rw [if_neg hk]; exact cond_f (by simpa using hk) (bind_eq (refnum_eq _ _) rfl)
 | N =>
  refine bind_eq (a := if okName m.Name_ then 0 else 6) (bind_eq (ref_valid_eq _ h4) ?_) rfl
  cases okName m.Name_ <;> rfl
 | e =>
  refine bind_eq (a := inR m.Err_ 1 59) ?_ rfl
  show (bif (decide (m.Err_ < 1) || decide (m.Err_ > 59)) then some 5 else some 0) = some (inR m.Err_ 1 59)
  unfold inR
  by_cases hc : 1 ≤ m.Err_ ∧ m.Err_ ≤ 59
  ·rw [if_pos hc]; exact cond_f (by simp; omega) rfl
  ·rw [if_neg hc]; exact cond_t (by simp; omega) rfl
theorem refloop2 (m : api_Msg) (h : m.ok) (l : List Lt) (hl : l.length ≤ 100) : loopF (ref08_Check_L2 (refB l) m) BIG 0 = some (match l.findSome? (fun k => first1 (faultR k m)) with | none => .fall () | some r => .ret r) := by
 have hB : BIG = 18446744073709551616 := rfl
 have hlen : (refB l).length = l.length := by simp [refB]
 refine (loop_all3 (body := ref08_Check_L2 (refB l) m) l (fun k => first1 (faultR k m)) (by omega) (fun i hi => ?_) ?_).trans ?_
 ·unfold ref08_Check_L2
  refine cond_t (by rw [hlen]; simp; omega) (bind_eq (refB_byte l i hi) (bind_eq (reffault_eq _ m h) ?_))
  rw [w64_eq (n := (i : Int) + 1) ⟨by omega, by omega⟩]
  unfold first1
  by_cases hy : faultR l[i] m = 0
  ·rw [if_pos hy]; exact cond_f (by simp [hy]) rfl
  ·rw [if_neg hy]; exact cond_t (by simp [hy]) rfl
 ·unfold ref08_Check_L2
  exact cond_f (by rw [hlen]; simp) rfl
 ·cases l.findSome? (fun k => first1 (faultR k m)) <;> rfl
end Go.Proofs.YtolgkhjkdadhiaaGreat
namespace Go.Proofs.YtolgkhjkdadhiaaGreat
open Go.Rt Go.RowKit
def firstF (l : List Lt) (m : api_Msg) : Int := match l.findSome? (fun k => first1 (faultR k m)) with | none => 0 | some r => r
theorem fault_zero (k : Lt) (m : api_Msg) (he : k ≠ .e) (hN : k ≠ .N) (h : zeroF k m = true) : faultR k m = 0 := by
 cases k with
 | a =>
  have h' : m.AuthFid_ = 0 := of_decide_eq_true h
  show (if m.Kind_ = 102 then inR m.AuthFid_ 0 4294967294 else inR m.AuthFid_ 0 4294967295) = 0
  rw [h']
  by_cases hk : m.Kind_ = 102 <;> simp [hk, inR]
 | e => exact absurd rfl he
 | N => exact absurd rfl hN
 | _ => unfold zeroF at h; have h := of_decide_eq_true h; unfold faultR; simp only; rw [h]; first | rfl | kernel_rfl
theorem firstF_one (k : Lt) (m : api_Msg) : firstF [k] m = faultR k m := by
 unfold firstF
 simp only [List.findSome?_cons, List.findSome?_nil]
 unfold first1
 by_cases h : faultR k m = 0 <;> simp [h]
theorem firstF_drop {l j : List Lt} {m : api_Msg} : (∀ k ∈ l, k ∉ j → faultR k m = 0) → l.filter (fun k => decide (k ∈ j)) = j → firstF l m = firstF j m := by
 intro h hj
 unfold firstF
 have : l.findSome? (fun k => first1 (faultR k m)) = (l.filter (fun k => decide (k ∈ j))).findSome? (fun k => first1 (faultR k m)) := by
  clear hj
  induction l with
  | nil => rfl
  | cons k l ih =>
   have ih := ih fun k' hk' => h k' (List.mem_cons_of_mem _ hk')
   by_cases hk : k ∈ j
   ·rw [List.filter_cons_of_pos (by simpa using hk), List.findSome?_cons, List.findSome?_cons, ih]
   ·rw [List.filter_cons_of_neg (by simpa using hk), List.findSome?_cons, h k List.mem_cons_self hk]
    exact ih
 rw [this, hj]
theorem ff_100 (m : api_Msg) (hk : m.Kind_ = 100) (h : m.ok) (hz : ∀ k, k ∈ ([.m, .v] : List Lt) ∨ zeroF k m = true) : msg_fields m = some (firstF [.m, .v] m) := by
 rw [fields_100 m hk h, ← firstF_drop (l := [.m, .v, .s]) (j := [.m, .v]) (m := m) ?_ (by decide)]
 ·rfl
 ·intro k hk' hn
  rcases hz k with h1 | h1
  ·exact absurd h1 hn
  ·exact fault_zero k m (by rintro rfl; revert hk' hn; decide) (by rintro rfl; revert hk' hn; decide) h1
theorem ff_101 (m : api_Msg) (hk : m.Kind_ = 101) (h : m.ok) (hz : ∀ k, k ∈ ([.m, .v, .s] : List Lt) ∨ zeroF k m = true) : msg_fields m = some (firstF [.m, .v, .s] m) := by
 rw [fields_101 m hk h, ← firstF_drop (l := [.m, .v, .s]) (j := [.m, .v, .s]) (m := m) ?_ (by decide)]
 ·rfl
 ·intro k hk' hn
  rcases hz k with h1 | h1
  ·exact absurd h1 hn
  ·exact fault_zero k m (by rintro rfl; revert hk' hn; decide) (by rintro rfl; revert hk' hn; decide) h1
theorem ff_102 (m : api_Msg) (hk : m.Kind_ = 102) (h : m.ok) (hz : ∀ k, k ∈ ([.a, .u, .x] : List Lt) ∨ zeroF k m = true) : msg_fields m = some (firstF [.a, .u, .x] m) := by
 rw [fields_102 m hk h, ← firstF_drop (l := [.a, .u, .x]) (j := [.a, .u, .x]) (m := m) ?_ (by decide)]
 ·unfold firstF firstR
  simp only [List.findSome?_cons, List.findSome?_nil, faultR, hk]
  rfl
 ·intro k hk' hn
  rcases hz k with h1 | h1
  ·exact absurd h1 hn
  ·exact fault_zero k m (by rintro rfl; revert hk' hn; decide) (by rintro rfl; revert hk' hn; decide) h1
theorem ff_103 (m : api_Msg) (hk : m.Kind_ = 103) (h : m.ok) (hz : ∀ k, k ∈ ([.q] : List Lt) ∨ zeroF k m = true) : msg_fields m = some (firstF [.q] m) := by
 rw [fields_103 m hk h, ← firstF_drop (l := [.q, .i]) (j := [.q]) (m := m) ?_ (by decide)]
 ·rfl
 ·intro k hk' hn
  rcases hz k with h1 | h1
  ·exact absurd h1 hn
  ·exact fault_zero k m (by rintro rfl; revert hk' hn; decide) (by rintro rfl; revert hk' hn; decide) h1
theorem ff_104 (m : api_Msg) (hk : m.Kind_ = 104) (h : m.ok) (hz : ∀ k, k ∈ ([.f, .a, .u, .x] : List Lt) ∨ zeroF k m = true) : msg_fields m = some (firstF [.f, .a, .u, .x] m) := by
 rw [fields_104 m hk h, ← firstF_drop (l := [.f, .a, .u, .x]) (j := [.f, .a, .u, .x]) (m := m) ?_ (by decide)]
 ·unfold firstF firstR
  simp only [List.findSome?_cons, List.findSome?_nil, faultR, hk]
  rfl
 ·intro k hk' hn
  rcases hz k with h1 | h1
  ·exact absurd h1 hn
  ·exact fault_zero k m (by rintro rfl; revert hk' hn; decide) (by rintro rfl; revert hk' hn; decide) h1
theorem ff_105 (m : api_Msg) (hk : m.Kind_ = 105) (h : m.ok) (hz : ∀ k, k ∈ ([.q] : List Lt) ∨ zeroF k m = true) : msg_fields m = some (firstF [.q] m) := by
 rw [fields_105 m hk h, ← firstF_drop (l := [.q, .i]) (j := [.q]) (m := m) ?_ (by decide)]
 ·rfl
 ·intro k hk' hn
  rcases hz k with h1 | h1
  ·exact absurd h1 hn
  ·exact fault_zero k m (by rintro rfl; revert hk' hn; decide) (by rintro rfl; revert hk' hn; decide) h1
theorem ff_107 (m : api_Msg) (hk : m.Kind_ = 107) (h : m.ok) (hz : ∀ k, k ∈ ([.e] : List Lt) ∨ zeroF k m = true) : msg_fields m = some (firstF [.e] m) := by
 rw [fields_107 m hk h, ← firstF_drop (l := [.e]) (j := [.e]) (m := m) ?_ (by decide)]
 ·exact congrArg some (firstF_one .e m).symm
 ·intro k hk' hn
  rcases hz k with h1 | h1
  ·exact absurd h1 hn
  ·exact fault_zero k m (by rintro rfl; revert hk' hn; decide) (by rintro rfl; revert hk' hn; decide) h1
theorem ff_108 (m : api_Msg) (hk : m.Kind_ = 108) (h : m.ok) (hz : ∀ k, k ∈ ([.o] : List Lt) ∨ zeroF k m = true) : msg_fields m = some (firstF [.o] m) := by
 rw [fields_108 m hk h, ← firstF_drop (l := [.o]) (j := [.o]) (m := m) ?_ (by decide)]
 ·exact congrArg some (firstF_one .o m).symm
 ·intro k hk' hn
  rcases hz k with h1 | h1
  ·exact absurd h1 hn
  ·exact fault_zero k m (by rintro rfl; revert hk' hn; decide) (by rintro rfl; revert hk' hn; decide) h1
theorem ff_109 (m : api_Msg) (hk : m.Kind_ = 109) (h : m.ok) (hz : ∀ k, k ∈ ([] : List Lt) ∨ zeroF k m = true) : msg_fields m = some (firstF [] m) := by
 rw [fields_109 m hk h, ← firstF_drop (l := [.f]) (j := []) (m := m) ?_ (by decide)]
 ·exact congrArg some (firstF_one .f m).symm
 ·intro k hk' hn
  rcases hz k with h1 | h1
  ·exact absurd h1 hn
  ·exact fault_zero k m (by rintro rfl; revert hk' hn; decide) (by rintro rfl; revert hk' hn; decide) h1
theorem ff_110 (m : api_Msg) (hk : m.Kind_ = 110) (h : m.ok) (hz : ∀ k, k ∈ ([.f, .n, .w] : List Lt) ∨ zeroF k m = true) : msg_fields m = some (firstF [.f, .n, .w] m) := by
 rw [fields_110 m hk h, ← firstF_drop (l := [.f, .n, .w]) (j := [.f, .n, .w]) (m := m) ?_ (by decide)]
 ·rfl
 ·intro k hk' hn
  rcases hz k with h1 | h1
  ·exact absurd h1 hn
  ·exact fault_zero k m (by rintro rfl; revert hk' hn; decide) (by rintro rfl; revert hk' hn; decide) h1
theorem ff_111 (m : api_Msg) (hk : m.Kind_ = 111) (h : m.ok) (hz : ∀ k, k ∈ ([.W] : List Lt) ∨ zeroF k m = true) : msg_fields m = some (firstF [.W] m) := by
 rw [fields_111 m hk h, ← firstF_drop (l := [.W]) (j := [.W]) (m := m) ?_ (by decide)]
 ·exact congrArg some (firstF_one .W m).symm
 ·intro k hk' hn
  rcases hz k with h1 | h1
  ·exact absurd h1 hn
  ·exact fault_zero k m (by rintro rfl; revert hk' hn; decide) (by rintro rfl; revert hk' hn; decide) h1
theorem ff_112 (m : api_Msg) (hk : m.Kind_ = 112) (h : m.ok) (hz : ∀ k, k ∈ ([.f, .M] : List Lt) ∨ zeroF k m = true) : msg_fields m = some (firstF [.f, .M] m) := by
 rw [fields_112 m hk h, ← firstF_drop (l := [.f, .M]) (j := [.f, .M]) (m := m) ?_ (by decide)]
 ·rfl
 ·intro k hk' hn
  rcases hz k with h1 | h1
  ·exact absurd h1 hn
  ·exact fault_zero k m (by rintro rfl; revert hk' hn; decide) (by rintro rfl; revert hk' hn; decide) h1
theorem ff_113 (m : api_Msg) (hk : m.Kind_ = 113) (h : m.ok) (hz : ∀ k, k ∈ ([.q, .i] : List Lt) ∨ zeroF k m = true) : msg_fields m = some (firstF [.q, .i] m) := by
 rw [fields_113 m hk h, ← firstF_drop (l := [.q, .i]) (j := [.q, .i]) (m := m) ?_ (by decide)]
 ·rfl
 ·intro k hk' hn
  rcases hz k with h1 | h1
  ·exact absurd h1 hn
  ·exact fault_zero k m (by rintro rfl; revert hk' hn; decide) (by rintro rfl; revert hk' hn; decide) h1
theorem ff_114 (m : api_Msg) (hk : m.Kind_ = 114) (h : m.ok) (hz : ∀ k, k ∈ ([.f, .N, .p, .M] : List Lt) ∨ zeroF k m = true) : msg_fields m = some (firstF [.f, .N, .p, .M] m) := by
 rw [fields_114 m hk h, ← firstF_drop (l := [.f, .N, .p, .M]) (j := [.f, .N, .p, .M]) (m := m) ?_ (by decide)]
 ·rfl
 ·intro k hk' hn
  rcases hz k with h1 | h1
  ·exact absurd h1 hn
  ·exact fault_zero k m (by rintro rfl; revert hk' hn; decide) (by rintro rfl; revert hk' hn; decide) h1
theorem ff_115 (m : api_Msg) (hk : m.Kind_ = 115) (h : m.ok) (hz : ∀ k, k ∈ ([.q, .i] : List Lt) ∨ zeroF k m = true) : msg_fields m = some (firstF [.q, .i] m) := by
 rw [fields_115 m hk h, ← firstF_drop (l := [.q, .i]) (j := [.q, .i]) (m := m) ?_ (by decide)]
 ·rfl
 ·intro k hk' hn
  rcases hz k with h1 | h1
  ·exact absurd h1 hn
  ·exact fault_zero k m (by rintro rfl; revert hk' hn; decide) (by rintro rfl; revert hk' hn; decide) h1
theorem ff_116 (m : api_Msg) (hk : m.Kind_ = 116) (h : m.ok) (hz : ∀ k, k ∈ ([.f, .O, .c] : List Lt) ∨ zeroF k m = true) : msg_fields m = some (firstF [.f, .O, .c] m) := by
 rw [fields_116 m hk h, ← firstF_drop (l := [.f, .O, .c, .d]) (j := [.f, .O, .c]) (m := m) ?_ (by decide)]
 ·rfl
 ·intro k hk' hn
  rcases hz k with h1 | h1
  ·exact absurd h1 hn
  ·exact fault_zero k m (by rintro rfl; revert hk' hn; decide) (by rintro rfl; revert hk' hn; decide) h1
theorem ff_117 (m : api_Msg) (hk : m.Kind_ = 117) (h : m.ok) (hz : ∀ k, k ∈ ([.d] : List Lt) ∨ zeroF k m = true) : msg_fields m = some (firstF [.d] m) := by
 rw [fields_117 m hk h, ← firstF_drop (l := [.f, .O, .c, .d]) (j := [.d]) (m := m) ?_ (by decide)]
 ·rfl
 ·intro k hk' hn
  rcases hz k with h1 | h1
  ·exact absurd h1 hn
  ·exact fault_zero k m (by rintro rfl; revert hk' hn; decide) (by rintro rfl; revert hk' hn; decide) h1
theorem ff_118 (m : api_Msg) (hk : m.Kind_ = 118) (h : m.ok) (hz : ∀ k, k ∈ ([.f, .O, .d] : List Lt) ∨ zeroF k m = true) : msg_fields m = some (firstF [.f, .O, .d] m) := by
 rw [fields_118 m hk h, ← firstF_drop (l := [.f, .O, .c, .d]) (j := [.f, .O, .d]) (m := m) ?_ (by decide)]
 ·rfl
 ·intro k hk' hn
  rcases hz k with h1 | h1
  ·exact absurd h1 hn
  ·exact fault_zero k m (by rintro rfl; revert hk' hn; decide) (by rintro rfl; revert hk' hn; decide) h1
theorem ff_119 (m : api_Msg) (hk : m.Kind_ = 119) (h : m.ok) (hz : ∀ k, k ∈ ([.c] : List Lt) ∨ zeroF k m = true) : msg_fields m = some (firstF [.c] m) := by
 rw [fields_119 m hk h, ← firstF_drop (l := [.f, .O, .c, .d]) (j := [.c]) (m := m) ?_ (by decide)]
 ·rfl
 ·intro k hk' hn
  rcases hz k with h1 | h1
  ·exact absurd h1 hn
  ·exact fault_zero k m (by rintro rfl; revert hk' hn; decide) (by rintro rfl; revert hk' hn; decide) h1
theorem ff_120 (m : api_Msg) (hk : m.Kind_ = 120) (h : m.ok) (hz : ∀ k, k ∈ ([.f] : List Lt) ∨ zeroF k m = true) : msg_fields m = some (firstF [.f] m) := by
 rw [fields_120 m hk h, ← firstF_drop (l := [.f]) (j := [.f]) (m := m) ?_ (by decide)]
 ·exact congrArg some (firstF_one .f m).symm
 ·intro k hk' hn
  rcases hz k with h1 | h1
  ·exact absurd h1 hn
  ·exact fault_zero k m (by rintro rfl; revert hk' hn; decide) (by rintro rfl; revert hk' hn; decide) h1
theorem ff_121 (m : api_Msg) (hk : m.Kind_ = 121) (h : m.ok) (hz : ∀ k, k ∈ ([] : List Lt) ∨ zeroF k m = true) : msg_fields m = some (firstF [] m) := by
 rw [fields_121 m hk h, ← firstF_drop (l := [.f]) (j := []) (m := m) ?_ (by decide)]
 ·exact congrArg some (firstF_one .f m).symm
 ·intro k hk' hn
  rcases hz k with h1 | h1
  ·exact absurd h1 hn
  ·exact fault_zero k m (by rintro rfl; revert hk' hn; decide) (by rintro rfl; revert hk' hn; decide) h1
theorem ff_122 (m : api_Msg) (hk : m.Kind_ = 122) (h : m.ok) (hz : ∀ k, k ∈ ([.f] : List Lt) ∨ zeroF k m = true) : msg_fields m = some (firstF [.f] m) := by
 rw [fields_122 m hk h, ← firstF_drop (l := [.f]) (j := [.f]) (m := m) ?_ (by decide)]
 ·exact congrArg some (firstF_one .f m).symm
 ·intro k hk' hn
  rcases hz k with h1 | h1
  ·exact absurd h1 hn
  ·exact fault_zero k m (by rintro rfl; revert hk' hn; decide) (by rintro rfl; revert hk' hn; decide) h1
theorem ff_123 (m : api_Msg) (hk : m.Kind_ = 123) (h : m.ok) (hz : ∀ k, k ∈ ([] : List Lt) ∨ zeroF k m = true) : msg_fields m = some (firstF [] m) := by
 rw [fields_123 m hk h, ← firstF_drop (l := [.f]) (j := []) (m := m) ?_ (by decide)]
 ·exact congrArg some (firstF_one .f m).symm
 ·intro k hk' hn
  rcases hz k with h1 | h1
  ·exact absurd h1 hn
  ·exact fault_zero k m (by rintro rfl; revert hk' hn; decide) (by rintro rfl; revert hk' hn; decide) h1
theorem ff_124 (m : api_Msg) (hk : m.Kind_ = 124) (h : m.ok) (hz : ∀ k, k ∈ ([.f] : List Lt) ∨ zeroF k m = true) : msg_fields m = some (firstF [.f] m) := by
 rw [fields_124 m hk h, ← firstF_drop (l := [.f]) (j := [.f]) (m := m) ?_ (by decide)]
 ·exact congrArg some (firstF_one .f m).symm
 ·intro k hk' hn
  rcases hz k with h1 | h1
  ·exact absurd h1 hn
  ·exact fault_zero k m (by rintro rfl; revert hk' hn; decide) (by rintro rfl; revert hk' hn; decide) h1
theorem ff_125 (m : api_Msg) (hk : m.Kind_ = 125) (h : m.ok) (hz : ∀ k, k ∈ ([.S] : List Lt) ∨ zeroF k m = true) : msg_fields m = some (firstF [.S] m) := by
 rw [fields_125 m hk h, ← firstF_drop (l := [.f, .S]) (j := [.S]) (m := m) ?_ (by decide)]
 ·rfl
 ·intro k hk' hn
  rcases hz k with h1 | h1
  ·exact absurd h1 hn
  ·exact fault_zero k m (by rintro rfl; revert hk' hn; decide) (by rintro rfl; revert hk' hn; decide) h1
theorem ff_126 (m : api_Msg) (hk : m.Kind_ = 126) (h : m.ok) (hz : ∀ k, k ∈ ([.f, .S] : List Lt) ∨ zeroF k m = true) : msg_fields m = some (firstF [.f, .S] m) := by
 rw [fields_126 m hk h, ← firstF_drop (l := [.f, .S]) (j := [.f, .S]) (m := m) ?_ (by decide)]
 ·rfl
 ·intro k hk' hn
  rcases hz k with h1 | h1
  ·exact absurd h1 hn
  ·exact fault_zero k m (by rintro rfl; revert hk' hn; decide) (by rintro rfl; revert hk' hn; decide) h1
theorem ff_127 (m : api_Msg) (hk : m.Kind_ = 127) (h : m.ok) (hz : ∀ k, k ∈ ([] : List Lt) ∨ zeroF k m = true) : msg_fields m = some (firstF [] m) := by
 rw [fields_127 m hk h, ← firstF_drop (l := [.f]) (j := []) (m := m) ?_ (by decide)]
 ·exact congrArg some (firstF_one .f m).symm
 ·intro k hk' hn
  rcases hz k with h1 | h1
  ·exact absurd h1 hn
  ·exact fault_zero k m (by rintro rfl; revert hk' hn; decide) (by rintro rfl; revert hk' hn; decide) h1
theorem ff_128 (m : api_Msg) (hk : m.Kind_ = 128) (h : m.ok) (hz : ∀ k, k ∈ ([.f, .l, .t] : List Lt) ∨ zeroF k m = true) : msg_fields m = some (firstF [.f, .l, .t] m) := by
 rw [fields_128 m hk h, ← firstF_drop (l := [.f, .q, .l, .t]) (j := [.f, .l, .t]) (m := m) ?_ (by decide)]
 ·rfl
 ·intro k hk' hn
  rcases hz k with h1 | h1
  ·exact absurd h1 hn
  ·exact fault_zero k m (by rintro rfl; revert hk' hn; decide) (by rintro rfl; revert hk' hn; decide) h1
theorem ff_129 (m : api_Msg) (hk : m.Kind_ = 129) (h : m.ok) (hz : ∀ k, k ∈ ([.q, .l, .t] : List Lt) ∨ zeroF k m = true) : msg_fields m = some (firstF [.q, .l, .t] m) := by
 rw [fields_129 m hk h, ← firstF_drop (l := [.f, .q, .l, .t]) (j := [.q, .l, .t]) (m := m) ?_ (by decide)]
 ·rfl
 ·intro k hk' hn
  rcases hz k with h1 | h1
  ·exact absurd h1 hn
  ·exact fault_zero k m (by rintro rfl; revert hk' hn; decide) (by rintro rfl; revert hk' hn; decide) h1
theorem ff_130 (m : api_Msg) (hk : m.Kind_ = 130) (h : m.ok) (hz : ∀ k, k ∈ ([.s] : List Lt) ∨ zeroF k m = true) : msg_fields m = some (firstF [.s] m) := by
 rw [fields_130 m hk h, ← firstF_drop (l := [.s]) (j := [.s]) (m := m) ?_ (by decide)]
 ·exact congrArg some (firstF_one .s m).symm
 ·intro k hk' hn
  rcases hz k with h1 | h1
  ·exact absurd h1 hn
  ·exact fault_zero k m (by rintro rfl; revert hk' hn; decide) (by rintro rfl; revert hk' hn; decide) h1
theorem ff_131 (m : api_Msg) (hk : m.Kind_ = 131) (h : m.ok) (hz : ∀ k, k ∈ ([] : List Lt) ∨ zeroF k m = true) : msg_fields m = some (firstF [] m) := by
 rw [fields_131 m hk h, ← firstF_drop (l := [.f]) (j := []) (m := m) ?_ (by decide)]
 ·exact congrArg some (firstF_one .f m).symm
 ·intro k hk' hn
  rcases hz k with h1 | h1
  ·exact absurd h1 hn
  ·exact fault_zero k m (by rintro rfl; revert hk' hn; decide) (by rintro rfl; revert hk' hn; decide) h1
end Go.Proofs.YtolgkhjkdadhiaaGreat
namespace Go.Proofs.YtolgkhjkdadhiaaGreat
open Go.Rt Go.RowKit
theorem refname_in (k : Int) (hk : k = 100 ∨ k = 101 ∨ k = 102 ∨ k = 103 ∨ k = 104 ∨ k = 105 ∨ k = 107 ∨ k = 108 ∨ k = 109 ∨ k = 110 ∨ k = 111 ∨ k = 112 ∨ k = 113 ∨ k = 114 ∨ k = 115 ∨ k = 116 ∨ k = 117 ∨ k = 118 ∨ k = 119 ∨ k = 120 ∨ k = 121 ∨ k = 122 ∨ k = 123 ∨ k = 124 ∨ k = 125 ∨ k = 126 ∨ k = 127 ∨ k = 128 ∨ k = 129 ∨ k = 130 ∨ k = 131) : ref08_Name k = msg_Name k := by
 rcases hk with rfl | rfl | rfl | rfl | rfl | rfl | rfl | rfl | rfl | rfl | rfl | rfl | rfl | rfl | rfl | rfl | rfl | rfl | rfl | rfl | rfl | rfl | rfl | rfl | rfl | rfl | rfl | rfl | rfl | rfl | rfl <;> rfl
theorem refname_out (k : Int) (hk : ¬ (k = 100 ∨ k = 101 ∨ k = 102 ∨ k = 103 ∨ k = 104 ∨ k = 105 ∨ k = 107 ∨ k = 108 ∨ k = 109 ∨ k = 110 ∨ k = 111 ∨ k = 112 ∨ k = 113 ∨ k = 114 ∨ k = 115 ∨ k = 116 ∨ k = 117 ∨ k = 118 ∨ k = 119 ∨ k = 120 ∨ k = 121 ∨ k = 122 ∨ k = 123 ∨ k = 124 ∨ k = 125 ∨ k = 126 ∨ k = 127 ∨ k = 128 ∨ k = 129 ∨ k = 130 ∨ k = 131)) : ref08_Name k = some [] := by
 simp only [not_or] at hk
 unfold ref08_Name ref08_late
 refine cond_f (by simp; omega) ?_
 refine cond_f (by simp; omega) ?_
 refine cond_f (by simp; omega) ?_
 refine cond_f (by simp; omega) ?_
 refine cond_f (by simp; omega) ?_
 refine cond_f (by simp; omega) ?_
 refine cond_f (by simp; omega) ?_
 refine cond_f (by simp; omega) ?_
 refine cond_f (by simp; omega) ?_
 refine cond_f (by simp; omega) ?_
 refine cond_f (by simp; omega) ?_
 refine cond_f (by simp; omega) ?_
 refine cond_f (by simp; omega) ?_
 refine cond_f (by simp; omega) ?_
 refine cond_f (by simp; omega) ?_
 refine cond_f (by simp; omega) ?_
 refine cond_f (by simp; omega) ?_
 refine bind_eq (a := []) ?_ rfl
 refine cond_f (by simp; omega) ?_
 refine cond_f (by simp; omega) ?_
 refine cond_f (by simp; omega) ?_
 refine cond_f (by simp; omega) ?_
 refine cond_f (by simp; omega) ?_
 refine cond_f (by simp; omega) ?_
 refine cond_f (by simp; omega) ?_
 refine cond_f (by simp; omega) ?_
 refine cond_f (by simp; omega) ?_
 refine cond_f (by simp; omega) ?_
 refine cond_f (by simp; omega) ?_
 refine cond_f (by simp; omega) ?_
 refine cond_f (by simp; omega) ?_
 refine cond_f (by simp; omega) ?_
 rfl
end Go.Proofs.YtolgkhjkdadhiaaGreat
namespace Go.Proofs.YtolgkhjkdadhiaaGreat
open Go.Rt Go.RowKit
theorem b8_inj {j k : Lt} (h : j.b8 = k.b8) : j = k := by
 have h1 := congrArg UInt8.toNat h
 rw [j.b8_nat, k.b8_nat] at h1
 cases j <;> cases k <;> first | rfl | exact absurd h1 (by decide)
theorem layB_inj : ∀ {a b : List Lt}, layB a = layB b → a = b
 | [], [], _ => rfl
 | [], _ :: _, h => by cases h
 | _ :: _, [], h => by cases h
 | j :: l, k :: l', h => by
  simp only [layB, List.map_cons, List.cons.injEq] at h
  rw [b8_inj h.1, layB_inj h.2]
theorem lay_wr (m : api_Msg) {t : Str} (h : msg_Name m.Kind_ = some t) (ht : t ≠ []) (hok : m.ok) (hf : msg_fields m = some 0) : ∃ l : List Lt, wire_layout m.Kind_ = some (layB l) ∧ l.length ≤ 100 ∧ msg_only m = some (cps l m (zeroM m.Kind_ m.Tag_)) ∧ (∀ k ∈ l, Wr m k) ∧ ∃ u, encN m.Kind_ 1 = some u ∧ m.Kind_ ≤ 1000 := by
 have hk := named_kind h ht
 obtain ⟨l, h1, _, h2, h3⟩ := lay_only m h ht
 have key : ∀ l' : List Lt, wire_layout m.Kind_ = some (layB l') → (∀ k ∈ l', Wr m k) → ∀ k ∈ l, Wr m k := fun l' h1' h' => by
  rw [h1'] at h1
  rw [← layB_inj (Option.some.inj h1)]
  exact h'
 refine ⟨l, h1, h2, h3, ?_, ?_⟩
 ·rcases hk with hk | hk | hk | hk | hk | hk | hk | hk | hk | hk | hk | hk | hk | hk | hk | hk | hk | hk | hk | hk | hk | hk | hk | hk | hk | hk | hk | hk | hk | hk | hk
  ·exact key [.m, .v] (by rw [hk]; rfl) (wr_100 m hk hok hf)
  ·exact key [.m, .v, .s] (by rw [hk]; rfl) (wr_101 m hk hok hf)
  ·exact key [.a, .u, .x] (by rw [hk]; rfl) (wr_102 m hk hok hf)
  ·exact key [.q] (by rw [hk]; rfl) (wr_103 m hk hok hf)
  ·exact key [.f, .a, .u, .x] (by rw [hk]; rfl) (wr_104 m hk hok hf)
  ·exact key [.q] (by rw [hk]; rfl) (wr_105 m hk hok hf)
  ·exact key [.e] (by rw [hk]; rfl) (wr_107 m hk hok hf)
  ·exact key [.o] (by rw [hk]; rfl) (wr_108 m hk hok hf)
  ·exact key [] (by rw [hk]; rfl) (wr_109 m hk hok hf)
  ·exact key [.f, .n, .w] (by rw [hk]; rfl) (wr_110 m hk hok hf)
  ·exact key [.W] (by rw [hk]; rfl) (wr_111 m hk hok hf)
  ·exact key [.f, .M] (by rw [hk]; rfl) (wr_112 m hk hok hf)
  ·exact key [.q, .i] (by rw [hk]; rfl) (wr_113 m hk hok hf)
  ·exact key [.f, .N, .p, .M] (by rw [hk]; rfl) (wr_114 m hk hok hf)
  ·exact key [.q, .i] (by rw [hk]; rfl) (wr_115 m hk hok hf)
  ·exact key [.f, .O, .c] (by rw [hk]; rfl) (wr_116 m hk hok hf)
  ·exact key [.d] (by rw [hk]; rfl) (wr_117 m hk hok hf)
  ·exact key [.f, .O, .d] (by rw [hk]; rfl) (wr_118 m hk hok hf)
  ·exact key [.c] (by rw [hk]; rfl) (wr_119 m hk hok hf)
  ·exact key [.f] (by rw [hk]; rfl) (wr_120 m hk hok hf)
  ·exact key [] (by rw [hk]; rfl) (wr_121 m hk hok hf)
  ·exact key [.f] (by rw [hk]; rfl) (wr_122 m hk hok hf)
  ·exact key [] (by rw [hk]; rfl) (wr_123 m hk hok hf)
  ·exact key [.f] (by rw [hk]; rfl) (wr_124 m hk hok hf)
  ·exact key [.S] (by rw [hk]; rfl) (wr_125 m hk hok hf)
  ·exact key [.f, .S] (by rw [hk]; rfl) (wr_126 m hk hok hf)
  ·exact key [] (by rw [hk]; rfl) (wr_127 m hk hok hf)
  ·exact key [.f, .l, .t] (by rw [hk]; rfl) (wr_128 m hk hok hf)
  ·exact key [.q, .l, .t] (by rw [hk]; rfl) (wr_129 m hk hok hf)
  ·exact key [.s] (by rw [hk]; rfl) (wr_130 m hk hok hf)
  ·exact key [] (by rw [hk]; rfl) (wr_131 m hk hok hf)
 ·have : 0 ≤ m.Kind_ ∧ m.Kind_ ≤ 255 := by omega
  obtain ⟨u, hu⟩ := encN_ex (n := m.Kind_) (w := 1) (by omega) (by omega)
  exact ⟨u, hu, by omega⟩
theorem tagged_enc (m : api_Msg) (h : msg_tagged m = some true) : (∃ t, encN m.Tag_ 2 = some t) ∧ m.Tag_ ≤ 65535 := by
 have key : 0 ≤ m.Tag_ ∧ m.Tag_ ≤ 65535 := by
  unfold msg_tagged at h
  cases h1 : (m.Kind_ == 100) <;> cases h2 : (m.Kind_ == 101) <;> cases h3 : (m.Kind_ == 107) <;> rw [h1, h2, h3] at h <;> simp at h <;> omega
 exact ⟨encN_ex (by omega) (by omega), key.2⟩
theorem check_zero (m : api_Msg) (hok : m.ok) (h : msg_Check m = some 0) : ∃ (l : List Lt) (nm : Str), msg_Name m.Kind_ = some nm ∧ (nm == []) = false ∧ wire_layout m.Kind_ = some (layB l) ∧ l.length ≤ 100 ∧ m = cps l m (zeroM m.Kind_ m.Tag_) ∧ (∀ k ∈ l, Wr m k) ∧ (∃ u, encN m.Kind_ 1 = some u) ∧ (∃ u, encN m.Tag_ 2 = some u) ∧ m.Kind_ ≤ 1000 ∧ m.Tag_ ≤ 65535 := by
 unfold msg_Check at h
 obtain ⟨nm, e1⟩ := Option.get_some (name_some m.Kind_)
 rw [e1, Option.bind_some] at h
 cases hn : (nm == []) with
 | true => rw [hn] at h; cases h
 | false =>
  rw [hn, cond_false] at h
  have hne : nm ≠ [] := by simpa using hn
  obtain ⟨g, e2⟩ := Option.get_some (tagged_some m)
  rw [e2, Option.bind_some] at h
  cases g with
  | false => cases h
  | true =>
   obtain ⟨l0, _, _, _, e3⟩ := lay_only m e1 hne
   rw [e3, Option.bind_some] at h
   have hx := cps_small l0 hok.small.1 hok.small.2.2.1 (m := zeroM m.Kind_ m.Tag_) (by simp [zeroM]) (by simp [zeroM])
   rw [same_eq _ m hx.1 hx.2, Option.bind_some] at h
   cases hd : decide (cps l0 m (zeroM m.Kind_ m.Tag_) = m) with
   | false => rw [hd] at h; cases h
   | true =>
    rw [hd] at h
    have hf : msg_fields m = some 0 := by
     obtain ⟨c, ec⟩ := Option.get_some (fields_some m hok.small)
     rw [ec] at h ⊢
     exact h
    obtain ⟨l, e4, e5, e6, e7, u, e8, e9⟩ := lay_wr m e1 hne hok hf
    obtain ⟨e10, e11⟩ := tagged_enc m e2
    rw [e6] at e3
    refine ⟨l, nm, e1, hn, e4, e5, ?_, e7, ⟨u, e8⟩, e10, e9, e11⟩
    rw [Option.some.inj e3]
    exact (of_decide_eq_true hd).symm
theorem encN_len {n : Int} {w : Nat} {t : Str} (h : encN n w = some t) : t.length = w := by rw [(encN_some h).2, leB_len]
theorem encs_len {α : Type} {f : α → Option Str} (B : Nat) (hf : ∀ x t, f x = some t → t.length ≤ B) : ∀ {l : List α} {t : Str}, encs f l = some t → t.length ≤ B * l.length
 | [], t, h => by cases h; simp
 | x :: l, t, h => by
  obtain ⟨u, v, e1, e2, rfl⟩ := encs_cons h
  have h1 := hf x u e1
  have h2 := encs_len B hf e2
  rw [List.length_append, List.length_cons, Nat.mul_add]
  omega
theorem encT_len {s t : Str} (h : encT s = some t) : t.length ≤ 65537 := by
 obtain ⟨h1, rfl⟩ := encT_some h
 rw [textB_len]; omega
theorem encQ_len {q : api_Qid} {t : Str} (h : encQ q = some t) : t.length ≤ 13 := by
 obtain ⟨_, _, _, rfl⟩ := encQ_some h
 simp [leB_len]
theorem encF_len (k : Lt) (m : api_Msg) {t : Str} (h : encF k m = some t) : t.length ≤ 17179869184 := by
 have N : ∀ {n : Int} {w : Nat}, w ≤ 8 → encN n w = some t → t.length ≤ 17179869184 := fun hw h => by have := encN_len h; omega
 have T : ∀ {s : Str}, encT s = some t → t.length ≤ 17179869184 := fun h => by have := encT_len h; omega
 cases k with
 | v => exact T h
 | s => exact T h
 | u => exact T h
 | x => exact T h
 | e => exact T h
 | N => exact T h
 | q => have := encQ_len (q := m.Qid_) h; omega
 | w =>
  obtain ⟨h1, b, h2, rfl⟩ := encL_some (f := encT) (l := m.Names_) h
  have h3 := encs_len 65537 (fun _ _ h => encT_len h) h2
  have h4 : 65537 * m.Names_.length ≤ 65537 * 65535 := Nat.mul_le_mul_left _ h1
  rw [List.length_append, leB_len]; omega
 | W =>
  obtain ⟨h1, b, h2, rfl⟩ := encL_some (f := encQ) (l := m.Qids_) h
  have h3 := encs_len 13 (fun _ _ h => encQ_len h) h2
  rw [List.length_append, leB_len]; omega
 | d =>
  obtain ⟨h1, rfl⟩ := encD_some (s := m.Data_) h
  unfold fitsW at h1
  simp only [Bool.and_eq_true, Bool.or_eq_true, decide_eq_true_eq] at h1
  rw [List.length_append, leB_len]; omega
 | S =>
  obtain ⟨h1, rfl⟩ := encS_some (d := m.Stat_) h
  obtain ⟨l1, l2, l3, l4⟩ := texts_len m.Stat_ (checkR_zero m.Stat_ h1).2
  rw [List.length_append, leB_len, putB_len]; omega
 | _ => exact N (by omega) h
theorem fit_msg (x : api_Msg) (h : Fit te (.st 2) x) : x.ok := by
 have h1 := h 1
 obtain ⟨k1, k2, k3, k4, k5, k6, k7, t1, t2, t3, ⟨nl, nm⟩, ⟨ql, qm⟩, q1, q2, q3, i1, i2, i3, t4, i4, i5, t5, d1, d2, d3, d4, d5, d6, d7, d8, d9, s1, s2, s3, s4, e1, e2, e3, t6, _⟩ := h1
 refine ⟨⟨nl, fun s hs => (nm s hs).1, ql, t4, d1, d2, ⟨d3, d4, d5⟩, d6, d7, d8, d9, s1, s2, s3, s4⟩, fun q hq => ?_, q1, q2, q3⟩
 obtain ⟨a, b, c, _⟩ := qm q hq
 exact ⟨a, b, c⟩
end Go.Proofs.YtolgkhjkdadhiaaGreat
namespace Go.Proofs.YtolgkhjkdadhiaaGreat
open Go.Rt Go.RowKit
theorem reftag_eq (m : api_Msg) : ∃ b, msg_tagged m = some b ∧ ref08_tag m = some (if b then 0 else 5) := by
 unfold msg_tagged ref08_tag
 by_cases h1 : m.Kind_ = 100
 ·refine ⟨m.Tag_ == 65535, bind_eq (a := true) (cond_t (by simp [h1]) (by simp [h1])) (cond_t rfl rfl), ?_⟩
  by_cases h2 : m.Tag_ = 65535
  ·refine cond_f (by simp [h1, h2]) (cond_f (by simp [h1]) (by simp [h2]))
  ·refine cond_t (by simp [h1, h2]) (by simp [h2])
 ·by_cases h3 : m.Kind_ = 101
  ·refine ⟨m.Tag_ == 65535, bind_eq (a := true) (cond_f (by simp [h1]) (by simp [h3])) (cond_t rfl rfl), ?_⟩
   by_cases h2 : m.Tag_ = 65535
   ·refine cond_f (by simp [h3, h2]) (cond_f (by simp [h3]) (by simp [h2]))
   ·refine cond_t (by simp [h3, h2]) (by simp [h2])
  ·have e0 : (bif (m.Kind_ == 100) then some (m.Kind_ == 100) else some (m.Kind_ == 101)) = some false := cond_f (by simp [h1]) (by simp [h3])
   by_cases h4 : m.Kind_ = 107
   ·by_cases h2 : 0 ≤ m.Tag_ ∧ m.Tag_ ≤ 65535
    ·refine ⟨true, bind_eq e0 (cond_f rfl (cond_t (by simp [h4]) ?_)), cond_f ?_ (cond_f ?_ rfl)⟩
     ·rw [show decide (m.Tag_ ≥ 0) = true by simp; omega, show decide (m.Tag_ ≤ 65535) = true by simp; omega]; rfl
     ·simp [h1, h3]; omega
     ·simp [h4]
    ·refine ⟨false, bind_eq e0 (cond_f rfl (cond_t (by simp [h4]) ?_)), cond_t ?_ rfl⟩
     ·by_cases h5 : 0 ≤ m.Tag_
      ·rw [show decide (m.Tag_ ≤ 65535) = false by simp; omega]; simp
      ·rw [show decide (m.Tag_ ≥ 0) = false by simp; omega]; simp
     ·simp [h1, h3]; omega
   ·by_cases h2 : 0 ≤ m.Tag_ ∧ m.Tag_ ≤ 65534
    ·refine ⟨true, bind_eq e0 (cond_f rfl (cond_f (by simp [h4]) ?_)), cond_f ?_ (cond_f ?_ rfl)⟩
     ·rw [show decide (m.Tag_ ≥ 0) = true by simp; omega, show decide (m.Tag_ ≤ 65534) = true by simp; omega]; rfl
     ·simp [h1, h3]; omega
     ·simp [h1, h3, h4]; omega
    ·refine ⟨false, bind_eq e0 (cond_f rfl (cond_f (by simp [h4]) ?_)), ?_⟩
     ·by_cases h5 : 0 ≤ m.Tag_
      ·rw [show decide (m.Tag_ ≤ 65534) = false by simp; omega]; simp
      ·rw [show decide (m.Tag_ ≥ 0) = false by simp; omega]; simp
     ·by_cases h6 : 0 ≤ m.Tag_ ∧ m.Tag_ ≤ 65535
      ·exact cond_f (by simp [h1, h3]; omega) (cond_t (by simp [h1, h3, h4]; omega) rfl)
      ·exact cond_t (by simp [h1, h3]; omega) rfl
theorem refloop1 (m : api_Msg) (l : List Lt) (hl : l.length ≤ 100) (hf : ref08_Fields m.Kind_ = some (refB l)) : loopF (ref08_Check_L1 m) BIG 0 = some (match allL.findSome? (fun k => if k ∈ l ∨ zeroF k m = true then none else some (2 : Int)) with | none => .fall () | some r => .ret r) := by
 refine (loop_all3 (body := ref08_Check_L1 m) allL (fun k => if k ∈ l ∨ zeroF k m = true then none else some (2 : Int)) (by decide) (fun i hi => ?_) ?_).trans ?_
 ·have hi' : i < 23 := hi
  unfold ref08_Check_L1
  obtain ⟨u, hu, hv⟩ : ∃ u, ref08_Uses m.Kind_ (allL[i].ref : Int) = some u ∧ (u = true ↔ allL[i] ∈ l) := ⟨_, uses_eq m.Kind_ l _ hf hl, decide_eq_true_iff⟩
  refine cond_t (by simp; omega) (bind_eq (refB_byte allL i hi) (bind_eq hu ?_))
  rw [w64_eq (n := (i : Int) + 1) ⟨by omega, by omega⟩]
  cases u with
  | true =>
   have h := hv.1 rfl
   rw [if_pos (.inl h)]
   exact bind_eq rfl (cond_f rfl rfl)
  | false =>
   have h : ¬ allL[i] ∈ l := fun hc => by have := hv.2 hc; cases this
   have e := refB_byte allL i hi
   cases hz : zeroF allL[i] m with
   | true =>
    rw [if_pos (.inr rfl)]
    exact bind_eq (a := false) (cond_t rfl (bind_eq e (bind_eq (refzero_eq _ m) (congrArg (fun b => some !b) hz)))) (cond_f rfl rfl)
   | false =>
    rw [if_neg (fun hc => hc.elim h (fun hz' => absurd hz' Bool.false_ne_true))]
    exact bind_eq (a := true) (cond_t rfl (bind_eq e (bind_eq (refzero_eq _ m) (congrArg (fun b => some !b) hz)))) (cond_t rfl rfl)
 ·unfold ref08_Check_L1
  exact cond_f rfl rfl
 ·cases allL.findSome? (fun k => if k ∈ l ∨ zeroF k m = true then none else some (2 : Int)) <;> rfl
abbrev isKind (k : Int) : Prop := k = 100 ∨ k = 101 ∨ k = 102 ∨ k = 103 ∨ k = 104 ∨ k = 105 ∨ k = 107 ∨ k = 108 ∨ k = 109 ∨ k = 110 ∨ k = 111 ∨ k = 112 ∨ k = 113 ∨ k = 114 ∨ k = 115 ∨ k = 116 ∨ k = 117 ∨ k = 118 ∨ k = 119 ∨ k = 120 ∨ k = 121 ∨ k = 122 ∨ k = 123 ∨ k = 124 ∨ k = 125 ∨ k = 126 ∨ k = 127 ∨ k = 128 ∨ k = 129 ∨ k = 130 ∨ k = 131
theorem name_out (k : Int) (hk : ¬ isKind k) : msg_Name k = some [] := by
 obtain ⟨t, ht⟩ := Option.get_some (name_some k)
 by_cases h : t = []
 ·rw [ht, h]
 ·exact absurd (named_kind ht h) hk
theorem kinds_ref (m : api_Msg) (hk : isKind m.Kind_) (h : m.ok) : ∃ (l : List Lt) (t : Str), msg_Name m.Kind_ = some t ∧ (t == []) = false ∧ l.length ≤ 100 ∧ wire_layout m.Kind_ = some (layB l) ∧ ref08_Fields m.Kind_ = some (refB l) ∧ ref09_Fields m.Kind_ = some (l.map Lt.num, true) ∧
  msg_only m = some (cps l m (zeroM m.Kind_ m.Tag_)) ∧ ((∀ k, k ∈ l ∨ zeroF k m = true) → msg_fields m = some (firstF l m)) := by
 obtain ⟨t, ht, hne⟩ : ∃ t, msg_Name m.Kind_ = some t ∧ (t == []) = false := by
  rcases hk with hk | hk | hk | hk | hk | hk | hk | hk | hk | hk | hk | hk | hk | hk | hk | hk | hk | hk | hk | hk | hk | hk | hk | hk | hk | hk | hk | hk | hk | hk | hk <;> (rw [hk]; exact ⟨_, rfl, rfl⟩)
 obtain ⟨l', h1, _, _, h3⟩ := lay_only m ht (by simpa using hne)
 have key : ∀ l : List Lt, l.length ≤ 100 → wire_layout m.Kind_ = some (layB l) → ref08_Fields m.Kind_ = some (refB l) → ref09_Fields m.Kind_ = some (l.map Lt.num, true) → ((∀ k, k ∈ l ∨ zeroF k m = true) → msg_fields m = some (firstF l m)) →
   ∃ (l : List Lt) (t : Str), msg_Name m.Kind_ = some t ∧ (t == []) = false ∧ l.length ≤ 100 ∧ wire_layout m.Kind_ = some (layB l) ∧ ref08_Fields m.Kind_ = some (refB l) ∧ ref09_Fields m.Kind_ = some (l.map Lt.num, true) ∧
  msg_only m = some (cps l m (zeroM m.Kind_ m.Tag_)) ∧ ((∀ k, k ∈ l ∨ zeroF k m = true) → msg_fields m = some (firstF l m)) := fun l a b c d e => by
  rw [b] at h1
  rw [← layB_inj (Option.some.inj h1)] at h3
  exact ⟨l, t, ht, hne, a, b, c, d, h3, e⟩
 rcases hk with hk | hk | hk | hk | hk | hk | hk | hk | hk | hk | hk | hk | hk | hk | hk | hk | hk | hk | hk | hk | hk | hk | hk | hk | hk | hk | hk | hk | hk | hk | hk
 ·exact key [.m, .v] (by decide) (by rw [hk]; rfl) (by rw [hk]; rfl) (by rw [hk]; rfl) (ff_100 m hk h)
 ·exact key [.m, .v, .s] (by decide) (by rw [hk]; rfl) (by rw [hk]; rfl) (by rw [hk]; rfl) (ff_101 m hk h)
 ·exact key [.a, .u, .x] (by decide) (by rw [hk]; rfl) (by rw [hk]; rfl) (by rw [hk]; rfl) (ff_102 m hk h)
 ·exact key [.q] (by decide) (by rw [hk]; rfl) (by rw [hk]; rfl) (by rw [hk]; rfl) (ff_103 m hk h)
 ·exact key [.f, .a, .u, .x] (by decide) (by rw [hk]; rfl) (by rw [hk]; rfl) (by rw [hk]; rfl) (ff_104 m hk h)
 ·exact key [.q] (by decide) (by rw [hk]; rfl) (by rw [hk]; rfl) (by rw [hk]; rfl) (ff_105 m hk h)
 ·exact key [.e] (by decide) (by rw [hk]; rfl) (by rw [hk]; rfl) (by rw [hk]; rfl) (ff_107 m hk h)
 ·exact key [.o] (by decide) (by rw [hk]; rfl) (by rw [hk]; rfl) (by rw [hk]; rfl) (ff_108 m hk h)
 ·exact key [] (by decide) (by rw [hk]; rfl) (by rw [hk]; rfl) (by rw [hk]; rfl) (ff_109 m hk h)
 ·exact key [.f, .n, .w] (by decide) (by rw [hk]; rfl) (by rw [hk]; rfl) (by rw [hk]; rfl) (ff_110 m hk h)
 ·exact key [.W] (by decide) (by rw [hk]; rfl) (by rw [hk]; rfl) (by rw [hk]; rfl) (ff_111 m hk h)
 ·exact key [.f, .M] (by decide) (by rw [hk]; rfl) (by rw [hk]; rfl) (by rw [hk]; rfl) (ff_112 m hk h)
 ·exact key [.q, .i] (by decide) (by rw [hk]; rfl) (by rw [hk]; rfl) (by rw [hk]; rfl) (ff_113 m hk h)
 ·exact key [.f, .N, .p, .M] (by decide) (by rw [hk]; rfl) (by rw [hk]; rfl) (by rw [hk]; rfl) (ff_114 m hk h)
 ·exact key [.q, .i] (by decide) (by rw [hk]; rfl) (by rw [hk]; rfl) (by rw [hk]; rfl) (ff_115 m hk h)
 ·exact key [.f, .O, .c] (by decide) (by rw [hk]; rfl) (by rw [hk]; rfl) (by rw [hk]; rfl) (ff_116 m hk h)
 ·exact key [.d] (by decide) (by rw [hk]; rfl) (by rw [hk]; rfl) (by rw [hk]; rfl) (ff_117 m hk h)
 ·exact key [.f, .O, .d] (by decide) (by rw [hk]; rfl) (by rw [hk]; rfl) (by rw [hk]; rfl) (ff_118 m hk h)
 ·exact key [.c] (by decide) (by rw [hk]; rfl) (by rw [hk]; rfl) (by rw [hk]; rfl) (ff_119 m hk h)
 ·exact key [.f] (by decide) (by rw [hk]; rfl) (by rw [hk]; rfl) (by rw [hk]; rfl) (ff_120 m hk h)
 ·exact key [] (by decide) (by rw [hk]; rfl) (by rw [hk]; rfl) (by rw [hk]; rfl) (ff_121 m hk h)
 ·exact key [.f] (by decide) (by rw [hk]; rfl) (by rw [hk]; rfl) (by rw [hk]; rfl) (ff_122 m hk h)
 ·exact key [] (by decide) (by rw [hk]; rfl) (by rw [hk]; rfl) (by rw [hk]; rfl) (ff_123 m hk h)
 ·exact key [.f] (by decide) (by rw [hk]; rfl) (by rw [hk]; rfl) (by rw [hk]; rfl) (ff_124 m hk h)
 ·exact key [.S] (by decide) (by rw [hk]; rfl) (by rw [hk]; rfl) (by rw [hk]; rfl) (ff_125 m hk h)
 ·exact key [.f, .S] (by decide) (by rw [hk]; rfl) (by rw [hk]; rfl) (by rw [hk]; rfl) (ff_126 m hk h)
 ·exact key [] (by decide) (by rw [hk]; rfl) (by rw [hk]; rfl) (by rw [hk]; rfl) (ff_127 m hk h)
 ·exact key [.f, .l, .t] (by decide) (by rw [hk]; rfl) (by rw [hk]; rfl) (by rw [hk]; rfl) (ff_128 m hk h)
 ·exact key [.q, .l, .t] (by decide) (by rw [hk]; rfl) (by rw [hk]; rfl) (by rw [hk]; rfl) (ff_129 m hk h)
 ·exact key [.s] (by decide) (by rw [hk]; rfl) (by rw [hk]; rfl) (by rw [hk]; rfl) (ff_130 m hk h)
 ·exact key [] (by decide) (by rw [hk]; rfl) (by rw [hk]; rfl) (by rw [hk]; rfl) (ff_131 m hk h)
def chk (nm : Str) (b : Bool) (l : List Lt) (m : api_Msg) : Int := bif nm == [] then 2 else bif !b then 5 else bif (allL.all fun k => decide (k ∈ l) || zeroF k m) then firstF l m else 2
theorem all_find (l : List Lt) (m : api_Msg) : allL.findSome? (fun k => if k ∈ l ∨ zeroF k m = true then none else some (2 : Int)) = bif (allL.all fun k => decide (k ∈ l) || zeroF k m) then none else some 2 := by
 generalize allL = xs
 induction xs with
 | nil => rfl
 | cons k xs ih =>
  rw [List.findSome?_cons, List.all_cons, ih]
  by_cases h : k ∈ l ∨ zeroF k m = true
  ·have : (decide (k ∈ l) || zeroF k m) = true := by simpa using h
   rw [if_pos h, this]; rfl
  ·have : (decide (k ∈ l) || zeroF k m) = false := by simpa using h
   rw [if_neg h, this]; rfl
theorem refcheck_in (m : api_Msg) (h : m.ok) (l : List Lt) (nm : Str) (b : Bool) (e1 : ref08_Name m.Kind_ = some nm) (e2 : ref08_tag m = some (if b then 0 else 5)) (hl : l.length ≤ 100) (hf : ref08_Fields m.Kind_ = some (refB l)) : ref08_Check m = some (chk nm b l m) := by
 unfold ref08_Check chk
 refine bind_eq e1 ?_
 cases nm == [] with
 | true => rfl
 | false =>
  refine cond_f rfl (bind_eq e2 ?_)
  cases b with
  | false => rfl
  | true =>
   refine cond_f rfl (bind_eq (refloop1 m l hl hf) ?_)
   rw [all_find]
   cases (allL.all fun k => decide (k ∈ l) || zeroF k m) with
   | false => rfl
   | true =>
    refine bind_eq hf (bind_eq (refloop2 m h l hl) ?_)
    unfold firstF
    cases l.findSome? (fun k => first1 (faultR k m)) <;> rfl
theorem check_in (m : api_Msg) (h : m.ok) (l : List Lt) (nm : Str) (b : Bool) (e1 : msg_Name m.Kind_ = some nm) (e2 : msg_tagged m = some b) (e3 : msg_only m = some (cps l m (zeroM m.Kind_ m.Tag_))) (e4 : (∀ k, k ∈ l ∨ zeroF k m = true) → msg_fields m = some (firstF l m)) : msg_Check m = some (chk nm b l m) := by
 have hx := cps_small l h.small.1 h.small.2.2.1 (m := zeroM m.Kind_ m.Tag_) (by simp [zeroM]) (by simp [zeroM])
 unfold msg_Check chk
 refine bind_eq e1 ?_
 cases nm == [] with
 | true => rfl
 | false =>
  refine cond_f rfl (bind_eq e2 ?_)
  cases b with
  | false => rfl
  | true =>
   refine cond_f rfl (bind_eq e3 (bind_eq (same_eq _ m hx.1 hx.2) ?_))
   cases ha : (allL.all fun k => decide (k ∈ l) || zeroF k m) with
   | false =>
    have : ¬ cps l m (zeroM m.Kind_ m.Tag_) = m := by
     rw [only_iff]
     intro hc
     have : (allL.all fun k => decide (k ∈ l) || zeroF k m) = true := by
      rw [List.all_eq_true]
      intro k _
      simpa using hc k
     rw [this] at ha; cases ha
    exact cond_t (by simpa using this) rfl
   | true =>
    have hc : ∀ k, k ∈ l ∨ zeroF k m = true := fun k => by
     have := List.all_eq_true.1 ha k (mem_all k)
     simpa using this
    refine cond_f (by simpa using (only_iff l m).2 hc) (bind_eq (e4 hc) rfl)
theorem refcheck09 (m : api_Msg) (h : m.ok) : ref08_Check m = msg_Check m := by
 obtain ⟨b, e1, e2⟩ := reftag_eq m
 by_cases hk : isKind m.Kind_
 ·obtain ⟨l, nm, e3, _, hl, _, hf, _, e4, e5⟩ := kinds_ref m hk h
  rw [refcheck_in m h l nm b ((refname_in _ hk).trans e3) e2 hl hf, check_in m h l nm b e3 e1 e4 e5]
 ·unfold ref08_Check msg_Check
  rw [refname_out _ hk, name_out _ hk]
  rfl
end Go.Proofs.YtolgkhjkdadhiaaGreat
namespace Go.Proofs.YtolgkhjkdadhiaaGreat
open Go.Rt Go.RowKit
theorem number_loop (s : Str) (at_ w : Nat) (h1 : 1 ≤ w) (h8 : w ≤ 8) (h : at_ + w ≤ s.length) (hs : s.length ≤ 9223372036854775807) :
  loopF (ref07_number_L1 s (at_ : Int)) BIG (0, true, w64 ((w : Int) - 1)) = some ((if leV (win s at_ w) > 9223372036854775807 then 9223372036854775807 else (leV (win s at_ w) : Int)), all255 (win s at_ w)) := by
 have hB : BIG = 18446744073709551616 := rfl
 let V : Nat → Nat := fun j => leV ((win s at_ w).drop (w - j))
 let C : Nat → Bool := fun j => all255 ((win s at_ w).drop (w - j))
 let R : Nat → Int := fun j => if V j > 9223372036854775807 then 9223372036854775807 else (V j : Int)
 have hw := loop_traj (body := ref07_number_L1 s (at_ : Int)) (fun j => (R j, C j, (w : Int) - 1 - (j : Int))) w (by omega) (b := (R w, C w)) (fun j hj => ?_) ?_
 ·have e : (win s at_ w).drop (w - 0) = [] := List.drop_eq_nil_of_le (by rw [win_len h]; omega)
  have e2 : (win s at_ w).drop (w - w) = win s at_ w := by simp
  have r0 : R 0 = 0 := by simp only [R, V, e, leV]; rfl
  have c0 : C 0 = true := by simp only [C, e]; rfl
  simp only [r0, c0] at hw
  rw [w64_eq ⟨by omega, by omega⟩]
  simp only [R, V, C, e2] at hw
  simpa using hw
 ·unfold ref07_number_L1
  have hlt : V j < 2 ^ (8 * j) := by
   have := leV_lt ((win s at_ w).drop (w - j))
   rwa [show ((win s at_ w).drop (w - j)).length = j by rw [List.length_drop, win_len h]; omega] at this
  have hpw : 2 ^ (8 * j) ≤ 2 ^ 56 := Nat.pow_le_pow_right (by omega) (by omega)
  have hRj : R j = (V j : Int) := by simp only [R]; rw [if_neg (by omega)]
  have ei : w64 ((at_ : Int) + ((w : Int) - 1 - (j : Int))) = ((at_ + (w - 1 - j) : Nat) : Int) := by
   rw [w64_eq ⟨by omega, by omega⟩]; omega
  have hby := byteI_lt (s := s) (i := at_ + (w - 1 - j)) (by omega)
  have hV : V (j + 1) = (s[at_ + (w - 1 - j)]'(by omega)).toNat + 256 * V j := by simp only [V]; rw [win_drop h hj]; rfl
  have hC : C (j + 1) = ((s[at_ + (w - 1 - j)]'(by omega)) == 255 && C j) := by simp only [C]; rw [win_drop h hj]; rfl
  generalize s[at_ + (w - 1 - j)]'(by omega) = b at hby hV hC
  have hb := b.toNat_lt
  have hb255 : (((b.toNat : Nat) : Int) == 255) = (b == 255) := by
   rw [Bool.eq_iff_iff]
   simp only [beq_iff_eq]
   constructor
   ·intro hh
    apply UInt8.toNat_inj.1
    show b.toNat = 255
    omega
   ·intro hh
    rw [hh]; rfl
  refine cond_t (by simp; omega) ?_
  refine bind_eq (a := (R (j + 1), C (j + 1))) ?_ ?_
  ·refine bind_eq (a := C (j + 1)) ?_ ?_
   ·show (bif C j then Option.bind (byteI s (w64 ((at_ : Int) + ((w : Int) - 1 - (j : Int))))) _ else some false) = _
    cases hc : C j with
    | true =>
     refine cond_t rfl ?_
     rw [ei]
     refine bind_eq hby ?_
     rw [hb255, hC, hc, Bool.and_true]
    | false =>
     refine cond_f rfl ?_
     rw [hC, hc, Bool.and_false]
   ·show (bif decide (R j ≥ 36028797018963968) then _ else _) = _
    by_cases hs55 : V j ≥ 36028797018963968
    ·refine cond_t (by rw [hRj]; simp; omega) ?_
     have hR : R (j + 1) = 9223372036854775807 := by simp only [R]; rw [if_pos (by omega)]
     rw [hR]
    ·refine cond_f (by rw [hRj]; simp; omega) ?_
     show Option.bind (byteI s (w64 ((at_ : Int) + ((w : Int) - 1 - (j : Int))))) _ = _
     rw [ei]
     refine bind_eq hby ?_
     have hR : R (j + 1) = ((b.toNat + 256 * V j : Nat) : Int) := by simp only [R]; rw [if_neg (by omega), hV]
     rw [hR, hRj, w64_eq (n := (V j : Int) * 256) ⟨by omega, by omega⟩, w64_eq (n := (b.toNat : Int)) ⟨by omega, by omega⟩, w64_eq (n := (V j : Int) * 256 + (b.toNat : Int)) ⟨by omega, by omega⟩]
     congr 2
     omega
  ·show some (Step.next (R (j + 1), C (j + 1), w64 ((w : Int) - 1 - (j : Int) - 1))) = _
   rw [w64_eq ⟨by omega, by omega⟩]
   congr 4
   omega
 ·unfold ref07_number_L1
  exact cond_f (by simp; omega) rfl
theorem ref_number_eq (s : Str) (at_ w : Nat) (h1 : 1 ≤ w) (h8 : w ≤ 8) (h : at_ + w ≤ s.length) (hs : s.length ≤ 9223372036854775807) : ref07_number s (at_ : Int) (w : Int) = some (numF (win s at_ w)) := by
 unfold ref07_number
 refine bind_eq (number_loop s at_ w h1 h8 h hs) ?_
 unfold numF
 cases hc : all255 (win s at_ w) with
 | true => exact cond_t rfl (by simp)
 | false => exact cond_f rfl (by simp)
def putA (x : Arr4_string) (i : Nat) (t : Str) : Arr4_string := match i with
 | 0 => ⟨t, x.a1_, x.a2_, x.a3_⟩
 | 1 => ⟨x.a0_, t, x.a2_, x.a3_⟩
 | 2 => ⟨x.a0_, x.a1_, t, x.a3_⟩
 | _ => ⟨x.a0_, x.a1_, x.a2_, t⟩
theorem texts_body (s : Str) (arr : Arr4_string) (a i : Nat) (hi : i < 4) (h : a ≤ s.length) (hs : s.length ≤ 1000000) :
  ref07_texts_L1 s ((a : Int), (i : Int), arr) = match takeT s a with
   | none => some (.done (.ret (arr, false)))
   | some (t, p) => some (.next ((p : Int), ((i + 1 : Nat) : Int), putA arr i t)) := by
 unfold ref07_texts_L1 takeT
 refine cond_t (by simp; omega) ?_
 have e1 : w64 ((s.length : Int) - (a : Int)) = ((s.length - a : Nat) : Int) := by rw [w64_eq ⟨by omega, by omega⟩]; omega
 by_cases h2 : s.length < a + 2
 ·rw [if_pos h2]
  refine cond_t ?_ rfl
  show decide (w64 ((s.length : Int) - (a : Int)) < 2) = true
  rw [e1]; simp only [decide_eq_true_eq]; omega
 ·rw [if_neg h2]
  refine cond_f ?_ ?_
  ·show decide (w64 ((s.length : Int) - (a : Int)) < 2) = false
   rw [e1]; simp only [decide_eq_false_iff_not]; omega
  have b1 := byteI_lt (s := s) (i := a) (by omega)
  have b2 := byteI_lt (s := s) (i := a + 1) (by omega)
  have hv := two_bytes s a (by omega)
  have hv2 := leV_two s a (by omega)
  generalize s[a]'(by omega) = y1 at b1 hv
  generalize s[a + 1]'(by omega) = y2 at b2 hv
  have g1 := y1.toNat_lt
  have g2 := y2.toNat_lt
  have ea : w64 ((a : Int) + 1) = ((a + 1 : Nat) : Int) := by rw [w64_eq ⟨by omega, by omega⟩]; omega
  have en : w64 (w64 (y1.toNat : Int) + w64 (256 * w64 (y2.toNat : Int))) = (leV (win s a 2) : Int) := by
   rw [w64_eq (n := (y1.toNat : Int)) ⟨by omega, by omega⟩, w64_eq (n := (y2.toNat : Int)) ⟨by omega, by omega⟩, w64_eq (n := 256 * (y2.toNat : Int)) ⟨by omega, by omega⟩, w64_eq ⟨by omega, by omega⟩, hv]
   omega
  refine bind_eq b1 ?_
  show Option.bind (byteI s (w64 ((a : Int) + 1))) _ = _
  rw [ea]
  refine bind_eq b2 ?_
  show (bif decide (w64 (w64 ((s.length : Int) - (a : Int)) - 2) < w64 (w64 (y1.toNat : Int) + w64 (256 * w64 (y2.toNat : Int)))) then _ else _) = _
  rw [en, e1]
  have e3 : w64 (((s.length - a : Nat) : Int) - 2) = ((s.length - a - 2 : Nat) : Int) := by rw [w64_eq ⟨by omega, by omega⟩]; omega
  rw [e3]
  by_cases h3 : s.length < a + 2 + leV (win s a 2)
  ·rw [if_pos h3]
   exact cond_t (by simp only [decide_eq_true_eq]; omega) rfl
  ·rw [if_neg h3]
   refine cond_f (by simp only [decide_eq_false_iff_not]; omega) ?_
   have e4 : w64 ((a : Int) + 2) = ((a + 2 : Nat) : Int) := by rw [w64_eq ⟨by omega, by omega⟩]; omega
   have e5 : w64 (((a + 2 : Nat) : Int) + (leV (win s a 2) : Int)) = ((a + 2 + leV (win s a 2) : Nat) : Int) := by rw [w64_eq ⟨by omega, by omega⟩]; omega
   have hsub := win_sub s (a + 2) (leV (win s a 2)) (by omega) (by omega)
   show Option.bind (subI s (w64 ((a : Int) + 2)) (w64 (w64 ((a : Int) + 2) + (leV (win s a 2) : Int)))) _ = _
   rw [e4]
   refine bind_eq hsub ?_
   rw [e5]
   have e6 : w64 ((i : Int) + 1) = ((i + 1 : Nat) : Int) := by rw [w64_eq ⟨by omega, by omega⟩]; rfl
   rw [e6]
   match i, hi with
   | 0, _ => rfl
   | 1, _ => rfl
   | 2, _ => rfl
   | 3, _ => rfl
theorem texts_eq (s : Str) (hs : s.length ≤ 1000000) : match take4 s 0 with
  | some (t1, t2, t3, t4, p) => ref07_texts s = some (⟨t1, t2, t3, t4⟩, (p : Int) == (s.length : Int))
  | none => ∃ arr, ref07_texts s = some (arr, false) := by
 have hB : BIG = 18446744073709551611 + 1 + 1 + 1 + 1 + 1 := rfl
 unfold ref07_texts take4
 rw [hB]
 let z : Arr4_string := ⟨[], [], [], []⟩
 have b0 := texts_body s z 0 0 (by omega) (by omega) hs
 cases h1 : takeT s 0 with
 | none =>
  rw [h1] at b0
  exact ⟨_, bind_eq (loop_done b0) rfl⟩
 | some x1 =>
  obtain ⟨t1, p1⟩ := x1
  rw [h1] at b0
  have b1 := texts_body s (putA z 0 t1) p1 1 (by omega) (takeT_le h1).1 hs
  simp only
  cases h2 : takeT s p1 with
  | none =>
   rw [h2] at b1
   exact ⟨_, bind_eq (loop_next b0 (loop_done b1)) rfl⟩
  | some x2 =>
   obtain ⟨t2, p2⟩ := x2
   rw [h2] at b1
   have b2 := texts_body s (putA (putA z 0 t1) 1 t2) p2 2 (by omega) (takeT_le h2).1 hs
   simp only
   cases h3 : takeT s p2 with
   | none =>
    rw [h3] at b2
    exact ⟨_, bind_eq (loop_next b0 (loop_next b1 (loop_done b2))) rfl⟩
   | some x3 =>
    obtain ⟨t3, p3⟩ := x3
    rw [h3] at b2
    have b3 := texts_body s (putA (putA (putA z 0 t1) 1 t2) 2 t3) p3 3 (by omega) (takeT_le h3).1 hs
    simp only
    cases h4 : takeT s p3 with
    | none =>
     rw [h4] at b3
     exact ⟨_, bind_eq (loop_next b0 (loop_next b1 (loop_next b2 (loop_done b3)))) rfl⟩
    | some x4 =>
     obtain ⟨t4, p4⟩ := x4
     rw [h4] at b3
     have b4 : ref07_texts_L1 s ((p4 : Int), ((4 : Nat) : Int), putA (putA (putA (putA z 0 t1) 1 t2) 2 t3) 3 t4) = some (.done (.fall ((p4 : Int), putA (putA (putA (putA z 0 t1) 1 t2) 2 t3) 3 t4))) := by
      unfold ref07_texts_L1
      exact cond_f rfl rfl
     exact bind_eq (loop_next b0 (loop_next b1 (loop_next b2 (loop_next b3 (loop_done b4))))) rfl
theorem ref_get_eq (s : Str) (a : Nat) (h : a ≤ s.length) (hs : s.length ≤ 1000000) : ref07_Get s (a : Int) = some (getR s a) := by
 unfold ref07_Get getR
 refine cond_f (by simp only [Bool.or_eq_false_iff, decide_eq_false_iff_not]; omega) ?_
 have e1 : w64 ((s.length : Int) - (a : Int)) = ((s.length - a : Nat) : Int) := by rw [w64_eq ⟨by omega, by omega⟩]; omega
 rw [e1]
 by_cases h2 : s.length < a + 2
 ·rw [if_pos h2]
  exact cond_t (by simp only [decide_eq_true_eq]; omega) rfl
 ·rw [if_neg h2]
  refine cond_f (by simp only [decide_eq_false_iff_not]; omega) ?_
  have b1 := byteI_lt (s := s) (i := a) (by omega)
  have b2 := byteI_lt (s := s) (i := a + 1) (by omega)
  have hv := two_bytes s a (by omega)
  have hv2 := leV_two s a (by omega)
  generalize s[a]'(by omega) = y1 at b1 hv
  generalize s[a + 1]'(by omega) = y2 at b2 hv
  have g1 := y1.toNat_lt
  have g2 := y2.toNat_lt
  have ea : w64 ((a : Int) + 1) = ((a + 1 : Nat) : Int) := by rw [w64_eq ⟨by omega, by omega⟩]; omega
  have en : w64 (w64 (y1.toNat : Int) + w64 (256 * w64 (y2.toNat : Int))) = (leV (win s a 2) : Int) := by
   rw [w64_eq (n := (y1.toNat : Int)) ⟨by omega, by omega⟩, w64_eq (n := (y2.toNat : Int)) ⟨by omega, by omega⟩, w64_eq (n := 256 * (y2.toNat : Int)) ⟨by omega, by omega⟩, w64_eq ⟨by omega, by omega⟩, hv]
   omega
  refine bind_eq b1 ?_
  rw [ea]
  refine bind_eq b2 ?_
  rw [en]
  have e3 : w64 (((s.length - a : Nat) : Int) - 2) = ((s.length - a - 2 : Nat) : Int) := by rw [w64_eq ⟨by omega, by omega⟩]; omega
  rw [e3]
  by_cases h3 : s.length < a + 2 + leV (win s a 2)
  ·rw [if_pos h3]
   exact cond_t (by simp only [decide_eq_true_eq]; omega) rfl
  ·rw [if_neg h3]
   refine cond_f (by simp only [decide_eq_false_iff_not]; omega) ?_
   have e4 : w64 ((a : Int) + 2) = ((a + 2 : Nat) : Int) := by rw [w64_eq ⟨by omega, by omega⟩]; omega
   have ex : w64 (((a + 2 : Nat) : Int) + (leV (win s a 2) : Int)) = ((a + 2 + leV (win s a 2) : Nat) : Int) := by rw [w64_eq ⟨by omega, by omega⟩]; omega
   rw [e4]
   refine bind_eq (win_sub s (a + 2) (leV (win s a 2)) (by omega) (by omega)) ?_
   have hwl : (win s (a + 2) (leV (win s a 2))).length = leV (win s a 2) := win_len (by omega)
   rw [ex]
   generalize leV (win s a 2) = n at hwl hv2 h3 ⊢
   generalize win s (a + 2) n = y at hwl ⊢
   by_cases h47 : n < 47
   ·rw [if_pos h47]
    exact cond_t (by simp only [decide_eq_true_eq]; omega) rfl
   ·rw [if_neg h47]
    refine cond_f (by simp only [decide_eq_false_iff_not]; omega) ?_
    have hsub : subI y 47 (y.length : Int) = some (y.drop 47) := by
     rw [subI_eq (by omega) (by omega) (by omega)]
     simp
    refine bind_eq hsub ?_
    have ht := texts_eq (y.drop 47) (by rw [List.length_drop]; omega)
    rw [take4_shift y 47 (by omega)] at ht
    cases h4 : take4 y 47 with
    | none =>
     rw [h4] at ht
     obtain ⟨arr, ht⟩ := ht
     refine bind_eq ht ?_
     exact cond_t rfl rfl
    | some x =>
     obtain ⟨t1, t2, t3, t4, p⟩ := x
     rw [h4] at ht
     simp only [Option.map_some] at ht
     refine bind_eq ht ?_
     simp only
     have hle := take4_le h4
     by_cases hp : p = n
     ·rw [if_pos hp]
      refine cond_f (by rw [Bool.not_eq_false', beq_iff_eq, List.length_drop]; omega) ?_
      have nm : ∀ (q w : Nat), 1 ≤ w → w ≤ 8 → q + w ≤ 47 → ref07_number y (q : Int) (w : Int) = some (numF (win y q w)) := fun q w hw1 hw8 hq => ref_number_eq y q w hw1 hw8 (by omega) (by omega)
      refine bind_eq (nm 6 1 (by omega) (by omega) (by omega)) ?_
      refine bind_eq (nm 7 4 (by omega) (by omega) (by omega)) ?_
      refine bind_eq (nm 11 8 (by omega) (by omega) (by omega)) ?_
      refine bind_eq (nm 0 2 (by omega) (by omega) (by omega)) ?_
      refine bind_eq (nm 2 4 (by omega) (by omega) (by omega)) ?_
      refine bind_eq (nm 19 4 (by omega) (by omega) (by omega)) ?_
      refine bind_eq (nm 23 8 (by omega) (by omega) (by omega)) ?_
      refine bind_eq (nm 31 8 (by omega) (by omega) (by omega)) ?_
      refine bind_eq (nm 39 8 (by omega) (by omega) (by omega)) ?_
      have hB : BIG = 18446744073709551616 := rfl
      refine bind_eq (refcheck_eq (dirF y t1 t2 t3 t4) (by show t1.length ≤ _; omega)) ?_
      by_cases hc : checkR (dirF y t1 t2 t3 t4) = 0
      ·rw [if_pos hc]
       exact cond_f (by simp [hc]) rfl
      ·rw [if_neg hc]
       exact cond_t (by simp [hc]) rfl
     ·rw [if_neg hp]
      refine cond_t ?_ rfl
      rw [Bool.not_eq_true', beq_eq_false_iff_ne, List.length_drop]
      omega
end Go.Proofs.YtolgkhjkdadhiaaGreat
namespace Go.Proofs.YtolgkhjkdadhiaaGreat
open Go.Rt Go.RowKit
theorem leV_drop : ∀ (n : Nat) (s : Str), leV (s.drop n) ≤ leV s
 | 0, _ => Nat.le_refl _
 | _ + 1, [] => Nat.le_refl _
 | n + 1, b :: s => by
  have := leV_drop n s
  simp only [List.drop_succ_cons, leV]
  omega
theorem r02_loop (s : Str) (b w : Nat) (h1 : 1 ≤ w) (h8 : w ≤ 8) (h : b + w ≤ s.length) (hs : s.length ≤ 9223372036854775807) : ∀ (k fuel : Nat), k ≤ w → k < fuel → leV ((win s b w).drop k) ≤ 9223372036854775807 →
  loopF (ref02_Get_L1 s (b : Int)) fuel (((leV ((win s b w).drop k) : Nat) : Int), (k : Int) - 1) = some (if leV (win s b w) > 9223372036854775807 then .ret (0, 0, 5) else .fall (leV (win s b w) : Int))
 | 0, fuel + 1, _, _, hv => by
  rw [List.drop_zero] at hv ⊢
  rw [if_neg (by omega)]
  refine loop_done ?_
  unfold ref02_Get_L1
  exact cond_f (by simp) rfl
 | k + 1, fuel + 1, hk, hf, hv => by
  have hlt := leV_lt ((win s b w).drop (k + 1))
  have hd := win_drop (s := s) (at_ := b) (w := w) (j := w - (k + 1)) (by omega) (by omega)
  rw [show w - (w - (k + 1) + 1) = k by omega, show w - (w - (k + 1)) = k + 1 by omega] at hd
  have hby := byteI_lt (s := s) (i := b + (w - 1 - (w - (k + 1)))) (by omega)
  generalize s[b + (w - 1 - (w - (k + 1)))]'(by omega) = c at hd hby
  have hc := c.toNat_lt
  have hle := leV_drop k (win s b w)
  rw [hd] at hle
  simp only [leV] at hle
  have hpos : decide ((((k + 1 : Nat) : Int) - 1) ≥ 0) = true := by simp only [decide_eq_true_eq]; omega
  by_cases h55 : leV ((win s b w).drop (k + 1)) ≥ 36028797018963968
  ·rw [if_pos (by omega)]
   refine loop_done ?_
   unfold ref02_Get_L1
   refine cond_t hpos (cond_t ?_ rfl)
   simp only [decide_eq_true_eq]
   omega
  ·have ih := r02_loop s b w h1 h8 h hs k fuel (by omega) (by omega) (by rw [hd]; simp only [leV]; omega)
   refine loop_next ?_ ih
   unfold ref02_Get_L1
   refine cond_t hpos (cond_f ?_ ?_)
   ·simp only [decide_eq_false_iff_not]
    omega
   ·have e1 : w64 ((b : Int) + (((k + 1 : Nat) : Int) - 1)) = ((b + (w - 1 - (w - (k + 1))) : Nat) : Int) := by
     rw [w64_eq ⟨by omega, by omega⟩]; omega
    show Option.bind (byteI s (w64 ((b : Int) + (((k + 1 : Nat) : Int) - 1)))) _ = _
    rw [e1]
    refine bind_eq hby ?_
    rw [hd]
    simp only [leV]
    generalize leV ((win s b w).drop (k + 1)) = v at *
    rw [w64_eq (n := 256 * (v : Int)) ⟨by omega, by omega⟩, w64_eq (n := (c.toNat : Int)) ⟨by omega, by omega⟩, w64_eq (n := 256 * (v : Int) + (c.toNat : Int)) ⟨by omega, by omega⟩, w64_eq (n := ((k + 1 : Nat) : Int) - 1 - 1) ⟨by omega, by omega⟩]
    congr 3
    ·omega
    ·omega
theorem r02_at (s : Str) (b w : Nat) (h1 : 1 ≤ w) (h8 : w ≤ 8) (h : b ≤ s.length) (hs : s.length ≤ 9223372036854775807) :
  ref02_Get s (b : Int) (w : Int) = some (if s.length - b < w then (0, 0, 3) else if leV (win s b w) > 9223372036854775807 then (0, 0, 5) else ((leV (win s b w) : Int), ((b + w : Nat) : Int), 0)) := by
 unfold ref02_Get
 refine bind_eq (a := true) ?_ ?_
 ·unfold ref02_valid
  simp; omega
 refine cond_f (by simp; omega) ?_
 by_cases hlt : s.length - b < w
 ·rw [if_pos hlt]
  refine cond_t ?_ rfl
  rw [w64_eq ⟨by omega, by omega⟩]
  simp; omega
 ·rw [if_neg hlt]
  refine cond_f ?_ ?_
  ·rw [w64_eq ⟨by omega, by omega⟩]
   simp; omega
  have e : (win s b w).drop w = [] := List.drop_eq_nil_of_le (by rw [win_len (by omega)]; omega)
  have hl := r02_loop s b w h1 h8 (by omega) hs w BIG (Nat.le_refl _) (by show w < 18446744073709551616; omega) (by rw [e]; simp [leV])
  rw [e] at hl
  rw [w64_eq (n := (w : Int) - 1) ⟨by omega, by omega⟩]
  refine bind_eq hl ?_
  by_cases hv : leV (win s b w) > 9223372036854775807
  ·rw [if_pos hv, if_pos hv]
  ·rw [if_neg hv, if_neg hv]
   show some ((leV (win s b w) : Int), w64 ((b : Int) + (w : Int)), (0 : Int)) = _
   rw [w64_eq (n := (b : Int) + (w : Int)) ⟨by omega, by omega⟩]
   rfl
theorem r02_get (s : Str) (w : Nat) (h1 : 1 ≤ w) (h8 : w ≤ 8) (hs : s.length ≤ 9223372036854775807) :
  ref02_Get s 0 (w : Int) = some (if s.length < w then (0, 0, 3) else if leV (win s 0 w) > 9223372036854775807 then (0, 0, 5) else ((leV (win s 0 w) : Int), (w : Int), 0)) := by
 have := r02_at s 0 w h1 h8 (by omega) hs
 rwa [Nat.zero_add, Nat.sub_zero] at this
theorem subI_tail {α : Type} (s : List α) (a : Nat) (h : a ≤ s.length) : subI s (a : Int) (s.length : Int) = some (s.drop a) := by
 rw [subI_eq (by omega) (by omega) (by omega)]
 simp
def Sim (y : Str) (r : wire_reader) (q : ref09_In) : Prop := (∃ a : Nat, a ≤ y.length ∧ r = ⟨y, (a : Int), true⟩ ∧ q = ⟨y.drop a, false⟩) ∨ (∃ a S, r = ⟨y, a, false⟩ ∧ q = ⟨S, true⟩ ∧ S.length ≤ y.length)
def Two {α : Type} (y : Str) (r0 : wire_reader) (x : Option (α × wire_reader)) (z : Option (ref09_In × α)) : Prop := ∃ v r v' q, x = some (v, r) ∧ z = some (q, v') ∧ Sim y r q ∧ (r.ok_ = true → r0.ok_ = true ∧ v = v')
theorem bad_len {y : Str} : ([] : Str).length ≤ y.length := by simp
theorem snum {y : Str} {r : wire_reader} {q : ref09_In} {n : Nat} (h1 : 1 ≤ n) (h8 : n ≤ 8) (hs : y.length ≤ 1000000) (h : Sim y r q) :
  (∃ a, a + n ≤ y.length ∧ (r.ok_ = true ∧ leV (win y a n) ≤ 9223372036854775807) ∧ wire_reader_number r (n : Int) = some ((leV (win y a n) : Int), ⟨y, ((a + n : Nat) : Int), true⟩) ∧ ref09_number q (n : Int) = some (⟨y.drop (a + n), false⟩, (leV (win y a n) : Int))) ∨
  (∃ v a, wire_reader_number r (n : Int) = some (v, ⟨y, a, false⟩) ∧ ref09_number q (n : Int) = some (⟨[], true⟩, 0)) := by
 rcases h with ⟨a, ha, rfl, rfl⟩ | ⟨a, S, rfl, rfl, hS⟩
 ·have hg := get_eq y a n h1 h8 ha (by omega)
  have hr := r02_get (y.drop a) n h1 h8 (by rw [List.length_drop]; omega)
  rw [win_shift, Nat.add_zero, List.length_drop] at hr
  by_cases hlt : y.length - a < n
  ·rw [if_pos hlt] at hg hr
   refine .inr ⟨0, (a : Int), ?_, ?_⟩
   ·unfold wire_reader_number
    exact cond_f rfl (bind_eq hg (cond_t rfl rfl))
   ·unfold ref09_number
    exact bind_eq hr (cond_t rfl rfl)
  ·rw [if_neg hlt] at hg hr
   by_cases hv : leV (win y a n) > 9223372036854775807
   ·rw [if_pos hv] at hg hr
    refine .inr ⟨0, (a : Int), ?_, ?_⟩
    ·unfold wire_reader_number
     exact cond_f rfl (bind_eq hg (cond_t rfl rfl))
    ·unfold ref09_number
     exact bind_eq hr (cond_t rfl rfl)
   ·rw [if_neg hv] at hg hr
    refine .inl ⟨a, by omega, ⟨rfl, by omega⟩, ?_, ?_⟩
    ·unfold wire_reader_number
     exact cond_f rfl (bind_eq hg (cond_f rfl rfl))
    ·unfold ref09_number
     refine bind_eq hr (cond_f rfl ?_)
     refine bind_eq (subI_tail _ n (by rw [List.length_drop]; omega)) ?_
     rw [List.drop_drop]
 ·refine .inr ⟨0, a, ?_, ?_⟩
  ·unfold wire_reader_number
   exact cond_t rfl rfl
  ·have hr := r02_get S n h1 h8 (by omega)
   unfold ref09_number
   exact bind_eq hr (cond_t rfl rfl)
theorem tnum {y : Str} {r : wire_reader} {q : ref09_In} {n : Nat} (h1 : 1 ≤ n) (h8 : n ≤ 8) (hs : y.length ≤ 1000000) (h : Sim y r q) : Two y r (wire_reader_number r (n : Int)) (ref09_number q (n : Int)) := by
 rcases snum h1 h8 hs h with ⟨a, ha, ⟨ho, _⟩, e1, e2⟩ | ⟨v, a, e1, e2⟩
 ·exact ⟨_, _, _, _, e1, e2, .inl ⟨a + n, ha, rfl, rfl⟩, fun _ => ⟨ho, rfl⟩⟩
 ·exact ⟨_, _, _, _, e1, e2, .inr ⟨a, [], rfl, rfl, bad_len⟩, fun e => nomatch e⟩
theorem num_in {y : Str} {r r' : wire_reader} {q : ref09_In} {n : Nat} {v : Int} (h1 : 1 ≤ n) (h8 : n ≤ 8) (hs : y.length ≤ 1000000) (h : Sim y r q) (e : wire_reader_number r (n : Int) = some (v, r')) (ho : r'.ok_ = true) : InK .i64 v := by
 rcases snum h1 h8 hs h with ⟨a, ha, ⟨_, hv⟩, e1, _⟩ | ⟨v, a, e1, _⟩
 ·obtain ⟨rfl, rfl⟩ := Prod.mk.inj (Option.some.inj (e1.symm.trans e))
  exact (show -9223372036854775808 ≤ (leV (win y a n) : Int) ∧ (leV (win y a n) : Int) ≤ 9223372036854775807 from ⟨by omega, by omega⟩)
 ·obtain ⟨rfl, rfl⟩ := Prod.mk.inj (Option.some.inj (e1.symm.trans e))
  cases ho
theorem r02_text (s : Str) (hs : s.length ≤ 1000000) : ref02_GetText s 0 = some (match takeT s 0 with | none => ([], 0, 3) | some (t, p) => (t, (p : Int), 0)) := by
 unfold ref02_GetText
 have hg := r02_get s 2 (by omega) (by omega) (by omega)
 rw [show ((2 : Nat) : Int) = 2 from rfl] at hg
 unfold takeT
 by_cases h2 : s.length < 0 + 2
 ·rw [if_pos (by omega)] at hg
  rw [if_pos h2]
  refine bind_eq hg ?_
  exact cond_t rfl rfl
 ·have hv := leV_two s 0 (by omega)
  rw [if_neg (by omega), if_neg (by omega)] at hg
  rw [if_neg h2]
  refine bind_eq hg ?_
  refine cond_f rfl ?_
  have ew : w64 ((s.length : Int) - 2) = ((s.length - 2 : Nat) : Int) := by rw [w64_eq ⟨by omega, by omega⟩]; omega
  have ex : w64 (2 + (leV (win s 0 2) : Int)) = ((0 + 2 + leV (win s 0 2) : Nat) : Int) := by rw [w64_eq ⟨by omega, by omega⟩]; omega
  by_cases h3 : s.length < 0 + 2 + leV (win s 0 2)
  ·rw [if_pos h3]
   refine cond_t ?_ rfl
   show decide (w64 ((s.length : Int) - 2) < (leV (win s 0 2) : Int)) = true
   rw [ew]; simp only [decide_eq_true_eq]; omega
  ·rw [if_neg h3]
   refine cond_f ?_ ?_
   ·show decide (w64 ((s.length : Int) - 2) < (leV (win s 0 2) : Int)) = false
    rw [ew]; simp only [decide_eq_false_iff_not]; omega
   have hw := win_sub s (0 + 2) (leV (win s 0 2)) (by omega) (by omega)
   rw [show ((0 + 2 : Nat) : Int) = 2 from rfl] at hw
   refine bind_eq hw ?_
   show some (_, w64 (2 + (leV (win s 0 2) : Int)), (0 : Int)) = _
   rw [ex]
theorem ttext {y : Str} {r : wire_reader} {q : ref09_In} (hs : y.length ≤ 1000000) (h : Sim y r q) : Two y r (wire_reader_text r) (ref09_counted q) := by
 rcases h with ⟨a, ha, rfl, rfl⟩ | ⟨a, S, rfl, rfl, hS⟩
 ·have hg := gettext_eq y a ha hs
  have hr := r02_text (y.drop a) (by rw [List.length_drop]; omega)
  rw [takeT_shift y a 0 ha, Nat.add_zero] at hr
  cases ht : takeT y a with
  | none =>
   rw [ht] at hg hr
   refine ⟨[], ⟨y, (a : Int), false⟩, [], ⟨[], true⟩, ?_, ?_, .inr ⟨(a : Int), [], rfl, rfl, bad_len⟩, fun e => nomatch e⟩
   ·unfold wire_reader_text
    exact cond_f rfl (bind_eq hg (cond_t rfl rfl))
   ·unfold ref09_counted
    exact bind_eq hr (cond_t rfl rfl)
  | some x =>
   obtain ⟨t, p⟩ := x
   rw [ht] at hg hr
   have hle := takeT_le ht
   refine ⟨t, ⟨y, (p : Int), true⟩, t, ⟨y.drop p, false⟩, ?_, ?_, .inl ⟨p, hle.1, rfl, rfl⟩, fun _ => ⟨rfl, rfl⟩⟩
   ·unfold wire_reader_text
    exact cond_f rfl (bind_eq hg (cond_f rfl rfl))
   ·unfold ref09_counted
    refine bind_eq hr (cond_f rfl ?_)
    refine bind_eq (subI_tail (y.drop a) (p - a) (by rw [List.length_drop]; omega)) ?_
    rw [List.drop_drop, show a + (p - a) = p by omega]
    rfl
 ·refine ⟨[], ⟨y, a, false⟩, [], ⟨[], true⟩, ?_, ?_, .inr ⟨a, [], rfl, rfl, bad_len⟩, fun e => nomatch e⟩
  ·unfold wire_reader_text
   exact cond_t rfl rfl
  ·have hr := r02_text S (by omega)
   unfold ref09_counted
   exact bind_eq hr (cond_t rfl rfl)
theorem tqid {y : Str} {r : wire_reader} {q : ref09_In} (hs : y.length ≤ 1000000) (h : Sim y r q) : Two y r (wire_reader_qid r) (ref09_getQid q) := by
 obtain ⟨v1, r1, u1, q1, a1, b1, s1, e1⟩ := tnum (n := 1) (by omega) (by omega) hs h
 obtain ⟨v2, r2, u2, q2, a2, b2, s2, e2⟩ := tnum (n := 4) (by omega) (by omega) hs s1
 obtain ⟨v3, r3, u3, q3, a3, b3, s3, e3⟩ := tnum (n := 8) (by omega) (by omega) hs s2
 refine ⟨⟨v1, v2, v3⟩, r3, ⟨u1, u2, u3⟩, q3, ?_, ?_, s3, fun ho => ?_⟩
 ·unfold wire_reader_qid
  exact bind_eq a1 (bind_eq a2 (bind_eq a3 rfl))
 ·unfold ref09_getQid
  exact bind_eq b1 (bind_eq b2 (bind_eq b3 rfl))
 ·obtain ⟨o2, rfl⟩ := e3 ho
  obtain ⟨o1, rfl⟩ := e2 o2
  obtain ⟨o0, rfl⟩ := e1 o1
  exact ⟨o0, rfl⟩
theorem bind_split {α β : Type} {x : Option α} {f : α → Option β} {b : β} (h : Option.bind x f = some b) : ∃ a, x = some a ∧ f a = some b := by
 cases x with
 | none => cases h
 | some a => exact ⟨a, rfl, h⟩
theorem qid_in {y : Str} {r r' : wire_reader} {q : ref09_In} {v : api_Qid} (hs : y.length ≤ 1000000) (h : Sim y r q) (e : wire_reader_qid r = some (v, r')) (ho : r'.ok_ = true) : v.ok := by
 obtain ⟨v1, r1, u1, q1, a1, b1, s1, e1⟩ := tnum (n := 1) (by omega) (by omega) hs h
 obtain ⟨v2, r2, u2, q2, a2, b2, s2, e2⟩ := tnum (n := 4) (by omega) (by omega) hs s1
 obtain ⟨v3, r3, u3, q3, a3, b3, s3, e3⟩ := tnum (n := 8) (by omega) (by omega) hs s2
 have he : wire_reader_qid r = some (⟨v1, v2, v3⟩, r3) := by
  unfold wire_reader_qid
  exact bind_eq a1 (bind_eq a2 (bind_eq a3 rfl))
 obtain ⟨rfl, rfl⟩ := Prod.mk.inj (Option.some.inj (he.symm.trans e))
 have o2 := (e3 ho).1
 have o1 := (e2 o2).1
 exact ⟨num_in (n := 1) (by omega) (by omega) hs h a1 o1, num_in (n := 4) (by omega) (by omega) hs s1 a2 o2, num_in (n := 8) (by omega) (by omega) hs s2 a3 ho⟩
def textsR : List Str := (ref04_texts).getD []
theorem texts_some : ref04_texts = some textsR := rfl
theorem texts_all : (List.range 60).all (fun n => n == 0 || (decide (getI textsR (n : Int) = some (faultT (n : Int))) && (faultT (n : Int) != []))) = true := by kernel_rfl
theorem texts_at {n : Nat} (h1 : 1 ≤ n) (h2 : n ≤ 59) : getI textsR (n : Int) = some (faultT (n : Int)) ∧ (faultT (n : Int) == []) = false := by
 have := List.all_eq_true.1 texts_all n (List.mem_range.2 (by omega))
 simp only [Bool.or_eq_true, Bool.and_eq_true, decide_eq_true_eq, beq_iff_eq] at this
 rcases this with h | ⟨h, h'⟩
 ·omega
 ·exact ⟨h, by simpa using h'⟩
theorem textsR_len : (textsR.length : Int) = 60 := by kernel_rfl
theorem find_loops (x : Str) : ∀ (k fuel i : Nat), 1 ≤ i → i + k = 60 → k < fuel → ∃ o, (x ≠ [] → loopF (fault_Find_L1 x) fuel (i : Int) = some o) ∧ loopF (ref04_Find_L1 x) fuel ((i : Int), textsR) = some o ∧ (x = [] → o = .fall ())
 | 0, fuel + 1, i, _, hi, _ => by
  refine ⟨.fall (), fun _ => loop_done ?_, loop_done ?_, fun _ => rfl⟩
  ·unfold fault_Find_L1
   exact cond_f (by simp; omega) rfl
  ·unfold ref04_Find_L1
   refine cond_f ?_ rfl
   show decide ((i : Int) < (textsR.length : Int)) = false
   rw [textsR_len]; simp; omega
 | k + 1, fuel + 1, i, h1, hi, hk => by
  have hc : decide ((i : Int) ≤ 59) = true := by simp; omega
  have hc2 : decide ((i : Int) < (textsR.length : Int)) = true := by rw [textsR_len]; simp; omega
  obtain ⟨ht, hne⟩ := texts_at (n := i) h1 (by omega)
  cases hx : (faultT (i : Int) == x) with
  | true =>
   refine ⟨.ret ((i : Int), true), fun _ => loop_done ?_, loop_done ?_, fun e => ?_⟩
   ·unfold fault_Find_L1
    refine cond_t hc (bind_eq (fault_text _) ?_)
    exact cond_t hx rfl
   ·unfold ref04_Find_L1
    refine cond_t hc2 (bind_eq ht ?_)
    exact cond_t hx rfl
   ·rw [e] at hx; rw [hne] at hx; cases hx
  | false =>
   obtain ⟨o, h2, h3, h4⟩ := find_loops x k fuel (i + 1) (by omega) (by omega) (by omega)
   have ew : w64 ((i : Int) + 1) = ((i + 1 : Nat) : Int) := by rw [w64_eq ⟨by omega, by omega⟩]; rfl
   refine ⟨o, fun e => loop_next ?_ (h2 e), loop_next ?_ h3, h4⟩
   ·unfold fault_Find_L1
    refine cond_t hc (bind_eq (fault_text _) ?_)
    refine cond_f hx ?_
    rw [ew]
   ·unfold ref04_Find_L1
    refine cond_t hc2 (bind_eq ht ?_)
    refine cond_f hx ?_
    show some (Step.next (w64 ((i : Int) + 1), textsR)) = _
    rw [ew]
theorem find_both (x : Str) : ∃ y, fault_Find x = some y ∧ ref04_Find x = some y := by
 obtain ⟨o, h1, h2, h3⟩ := find_loops x 59 BIG 1 (by omega) rfl (by show (59 : Nat) < 18446744073709551616; omega)
 rw [show ((1 : Nat) : Int) = 1 from rfl] at h1 h2
 by_cases hx : x = []
 ·obtain rfl := h3 hx
  refine ⟨(0, false), ?_, ?_⟩
  ·unfold fault_Find
   exact cond_t (by simp [hx]) rfl
  ·unfold ref04_Find
   exact bind_eq texts_some (bind_eq h2 rfl)
 ·cases o with
  | ret z =>
   refine ⟨z, ?_, ?_⟩
   ·unfold fault_Find
    exact cond_f (by simp [hx]) (bind_eq (h1 hx) rfl)
   ·unfold ref04_Find
    exact bind_eq texts_some (bind_eq h2 rfl)
  | fall u =>
   refine ⟨(0, false), ?_, ?_⟩
   ·unfold fault_Find
    exact cond_f (by simp [hx]) (bind_eq (h1 hx) rfl)
   ·unfold ref04_Find
    exact bind_eq texts_some (bind_eq h2 rfl)
theorem tfault {y : Str} {r : wire_reader} {q : ref09_In} (hs : y.length ≤ 1000000) (h : Sim y r q) : Two y r (wire_reader_fault r) (Option.bind (ref09_counted q) fun x => Option.bind (ref04_Find x.2) fun z => some ((ref09_In.mk x.1.S_ (x.1.Bad_ || (!z.2))), z.1)) := by
 obtain ⟨v1, r1, u1, q1, a1, b1, s1, e1⟩ := ttext hs h
 obtain ⟨⟨n, f⟩, f1, f2⟩ := find_both v1
 obtain ⟨⟨n', f'⟩, _, g2⟩ := find_both u1
 refine ⟨n, ⟨r1.s_, r1.at_, r1.ok_ && f⟩, n', ⟨q1.S_, q1.Bad_ || !f'⟩, ?_, ?_, ?_, fun ho => ?_⟩
 ·unfold wire_reader_fault
  exact bind_eq a1 (bind_eq f1 rfl)
 ·exact bind_eq b1 (bind_eq g2 rfl)
 ·rcases s1 with ⟨a, ha, rfl, rfl⟩ | ⟨a, S, rfl, rfl, hS⟩
  ·obtain ⟨_, rfl⟩ := e1 rfl
   rw [f2] at g2
   obtain ⟨rfl, rfl⟩ := Prod.mk.inj (Option.some.inj g2)
   cases f with
   | true => exact .inl ⟨a, ha, rfl, rfl⟩
   | false => exact .inr ⟨(a : Int), y.drop a, rfl, rfl, by rw [List.length_drop]; omega⟩
  ·exact .inr ⟨a, S, rfl, rfl, hS⟩
 ·simp only [Bool.and_eq_true] at ho
  obtain ⟨o0, rfl⟩ := e1 ho.1
  rw [f2] at g2
  exact ⟨o0, (Prod.mk.inj (Option.some.inj g2)).1⟩
theorem raw_bad (S : Str) (v : Int) : ref09_raw ⟨S, true⟩ v = some (⟨[], true⟩, []) := by
 unfold ref09_raw
 exact cond_t rfl rfl
theorem sdata {y : Str} {r : wire_reader} {q : ref09_In} {n : Nat} (h1 : 1 ≤ n) (h8 : n ≤ 8) (hs : y.length ≤ 1000000) (h : Sim y r q) :
  ∃ (q0 : ref09_In) (v0 : Int), ref09_number q (n : Int) = some (q0, v0) ∧
   ((∃ (t : Str) (p : Nat), r.ok_ = true ∧ p ≤ y.length ∧ t.length ≤ y.length ∧ v0 = (t.length : Int) ∧ wire_reader_data r (n : Int) = some (t, ⟨y, (p : Int), true⟩) ∧ ref09_raw q0 v0 = some (⟨y.drop p, false⟩, t)) ∨
    (∃ (v : Str) (a : Int), wire_reader_data r (n : Int) = some (v, ⟨y, a, false⟩) ∧ ref09_raw q0 v0 = some (⟨[], true⟩, []))) := by
 rcases snum h1 h8 hs h with ⟨a, ha, ⟨ho, _⟩, e1, e2⟩ | ⟨v, a, e1, e2⟩
 ·refine ⟨_, _, e2, ?_⟩
  have hld : (y.drop (a + n)).length = y.length - (a + n) := List.length_drop
  have ew : w64 ((y.length : Int) - ((a + n : Nat) : Int)) = ((y.length - (a + n) : Nat) : Int) := by rw [w64_eq ⟨by omega, by omega⟩]; omega
  generalize hv : leV (win y a n) = v at e1 e2
  by_cases hb : v > y.length - (a + n)
  ·refine .inr ⟨[], ((a + n : Nat) : Int), ?_, ?_⟩
   ·unfold wire_reader_data
    refine bind_eq e1 (cond_t ?_ rfl)
    show (!true || decide ((v : Int) > w64 ((y.length : Int) - ((a + n : Nat) : Int)))) = true
    rw [ew]; simp; omega
   ·unfold ref09_raw
    refine cond_t ?_ rfl
    show (false || decide ((v : Int) > ((y.drop (a + n)).length : Int))) = true
    rw [hld]; simp; omega
  ·have hwl : (win y (a + n) v).length = v := win_len (by omega)
   refine .inl ⟨win y (a + n) v, a + n + v, ho, by omega, by omega, by rw [hwl], ?_, ?_⟩
   ·unfold wire_reader_data
    refine bind_eq e1 (cond_f ?_ ?_)
    ·show (!true || decide ((v : Int) > w64 ((y.length : Int) - ((a + n : Nat) : Int)))) = false
     rw [ew]; simp; omega
    ·have ex : w64 (((a + n : Nat) : Int) + (v : Int)) = ((a + n + v : Nat) : Int) := by rw [w64_eq ⟨by omega, by omega⟩]; omega
     show Option.bind (subI y (w64 (w64 (((a + n : Nat) : Int) + (v : Int)) - (v : Int))) (w64 (((a + n : Nat) : Int) + (v : Int)))) (fun y2 => some (y2, (⟨y, w64 (((a + n : Nat) : Int) + (v : Int)), true⟩ : wire_reader))) = _
     have hsub := win_sub y (a + n) v (by omega) (by omega)
     have e3 : w64 (((a + n + v : Nat) : Int) - (v : Int)) = ((a + n : Nat) : Int) := by rw [w64_eq ⟨by omega, by omega⟩]; omega
     rw [ex] at hsub ⊢
     rw [e3]
     exact bind_eq hsub rfl
   ·unfold ref09_raw
    refine cond_f ?_ ?_
    ·show (false || decide ((v : Int) > ((y.drop (a + n)).length : Int))) = false
     rw [hld]; simp; omega
    ·refine bind_eq (subI_tail (y.drop (a + n)) v (by omega)) ?_
     have hsub : subI (y.drop (a + n)) 0 (v : Int) = some (win y (a + n) v) := by
      rw [subI_eq (by omega) (by omega) (by omega)]
      simp [win]
     refine bind_eq hsub ?_
     rw [List.drop_drop]
 ·refine ⟨_, _, e2, .inr ?_⟩
  have hd : wire_reader_data r (n : Int) = some ([], ⟨y, a, false⟩) := by
   unfold wire_reader_data
   exact bind_eq e1 (cond_t rfl rfl)
  exact ⟨_, _, hd, raw_bad _ _⟩
theorem tdata {y : Str} {r : wire_reader} {q : ref09_In} {n : Nat} (h1 : 1 ≤ n) (h8 : n ≤ 8) (hs : y.length ≤ 1000000) (h : Sim y r q) : Two y r (wire_reader_data r (n : Int)) (Option.bind (ref09_number q (n : Int)) fun x => ref09_raw x.1 x.2) := by
 obtain ⟨q0, v0, e0, ⟨t, p, ho, hp, _, _, e1, e2⟩ | ⟨v, a, e1, e2⟩⟩ := sdata h1 h8 hs h
 ·exact ⟨_, _, _, _, e1, bind_eq e0 e2, .inl ⟨p, hp, rfl, rfl⟩, fun _ => ⟨ho, rfl⟩⟩
 ·exact ⟨_, _, _, _, e1, bind_eq e0 e2, .inr ⟨a, [], rfl, rfl, bad_len⟩, fun e => nomatch e⟩
theorem tstat {y : Str} {r : wire_reader} {q : ref09_In} (hs : y.length ≤ 1000000) (h : Sim y r q) : Two y r (wire_reader_stat r) (Option.bind (ref09_number q 2) fun x => Option.bind (ref09_raw x.1 x.2) fun z => Option.bind (ref07_Get z.2 0) fun d => some ((ref09_In.mk z.1.S_ ((z.1.Bad_ || (d.2.2 != 0)) || (d.2.1 != x.2))), d.1)) := by
 obtain ⟨q0, v0, e0, ⟨t, p, ho, hp, htl, hv, e1, e2⟩ | ⟨v, a, e1, e2⟩⟩ := sdata (n := 2) (by omega) (by omega) hs h
 ·have hw := stat_get_eq t 0 (by omega) (by omega)
  have hr := ref_get_eq t 0 (by omega) (by omega)
  rw [show ((0 : Nat) : Int) = 0 from rfl] at hw hr
  generalize getR t 0 = g at hw hr
  obtain ⟨d, n, e⟩ := g
  refine ⟨d, ⟨y, (p : Int), (e == 0) && (n == (t.length : Int))⟩, d, ⟨y.drop p, (false || (e != 0)) || (n != v0)⟩, ?_, ?_, ?_, fun _ => ⟨ho, rfl⟩⟩
  ·unfold wire_reader_stat
   refine bind_eq e1 (cond_f rfl ?_)
   exact bind_eq hw rfl
  ·refine bind_eq e0 (bind_eq e2 ?_)
   exact bind_eq hr rfl
  ·rw [hv]
   by_cases hok : e = 0 ∧ n = (t.length : Int)
   ·left
    refine ⟨p, hp, ?_, ?_⟩
    ·simp [hok.1, hok.2]
    ·simp [hok.1, hok.2]
   ·right
    refine ⟨(p : Int), y.drop p, ?_, ?_, by rw [List.length_drop]; omega⟩
    ·congr 1
     rw [Bool.eq_false_iff]
     intro hc
     simp only [Bool.and_eq_true, beq_iff_eq] at hc
     exact hok hc
    ·congr 1
     rw [Bool.eq_iff_iff]
     simp only [Bool.false_or, Bool.or_eq_true, bne_iff_ne, ne_eq, iff_true]
     by_cases he : e = 0
     ·exact .inr fun hn => hok ⟨he, hn⟩
     ·exact .inl he
 ·have hr := ref_get_eq [] 0 (by simp) (by simp)
  rw [show ((0 : Nat) : Int) = 0 from rfl] at hr
  have x1 : wire_reader_stat r = some (zeroDir, ⟨y, a, false⟩) := by
   unfold wire_reader_stat
   exact bind_eq e1 (cond_t rfl rfl)
  exact ⟨_, _, _, _, x1, bind_eq e0 (bind_eq e2 (bind_eq hr rfl)), .inr ⟨a, [], rfl, rfl, bad_len⟩, fun e => nomatch e⟩
end Go.Proofs.YtolgkhjkdadhiaaGreat
namespace Go.Proofs.YtolgkhjkdadhiaaGreat
open Go.Rt Go.RowKit
abbrev StT : Type := Int × ref09_In × Int × Int × Int × Int × Int × Int × Int × Str × Str × Str × Int × Int × Int × Int × Int × Int × Str × Int × Int × Str × Int × Int × Int × Int × Int × Int × Int × Int × Int × Str × Str × Str × Str × Int × Int × Int × Str × (List Str) × (List api_Qid)
abbrev DnT : Type := ref09_In × Int × Int × Int × Int × Int × Int × Int × Str × Str × Str × Int × Int × Int × Int × Int × Int × Str × Int × Int × Str × Int × Int × Int × Int × Int × Int × Int × Int × Int × Str × Str × Str × Str × Int × Int × Int × Str × (List Str) × (List api_Qid)
def dn (q : ref09_In) (m : api_Msg) : DnT := (q, m.Kind_, m.Tag_, m.Fid_, m.NewFid_, m.AuthFid_, m.OldTag_, m.Msize_, m.Version_, m.User_, m.Attach_, m.Qid_.Type_, m.Qid_.Vers_, m.Qid_.Path_, m.Iounit_, m.Mode_, m.Perm_, m.Name_, m.Offset_, m.Count_, m.Data_, m.Stat_.Type_, m.Stat_.Dev_, m.Stat_.Qid_.Type_, m.Stat_.Qid_.Vers_, m.Stat_.Qid_.Path_, m.Stat_.Mode_, m.Stat_.Atime_, m.Stat_.Mtime_, m.Stat_.Length_, m.Stat_.Name_, m.Stat_.Uid_, m.Stat_.Gid_, m.Stat_.Muid_, m.Err_, m.Lease_, m.Term_, m.Session_, m.Names_, m.Qids_)
def st (i : Int) (q : ref09_In) (m : api_Msg) : StT := (i, dn q m)
theorem nd_names {y3 : ref09_In × Int} {i : Int} {q : ref09_In} {m : api_Msg} (h : (decide (i < y3.2) && !q.Bad_) = false) : ref09_readList_L1 y3 (st i q m) = some (.done (dn q m)) := by
 unfold ref09_readList_L1
 exact cond_f h rfl
theorem nx_names {y3 : ref09_In × Int} {i : Int} {q q1 : ref09_In} {m : api_Msg} {u : Str} {l : List Str} (h : (decide (i < y3.2) && !q.Bad_) = true) (hu : ref09_counted q = some (q1, u)) (hr : room 16 m.Names_ [u] = some l) : ref09_readList_L1 y3 (st i q m) = some (.next (st (w64 (i + 1)) q1 { m with Names_ := l })) := by
 unfold ref09_readList_L1
 exact cond_t h (bind_eq hu (bind_eq hr rfl))
theorem tw_names_loop (y : Str) (hs : y.length ≤ 1000000) (y3 : ref09_In × Int) (k : Nat) : ∀ (fuel i : Nat) (r : wire_reader) (q : ref09_In) (acc : List Str) (m : api_Msg), Sim y r q → y3.2 = ((i + k : Nat) : Int) → i + k ≤ 65535 → k < fuel → acc.length + k ≤ 65535 → (r.ok_ = true → m.Names_ = acc) →
  ∃ l r' q' m2, loopF wire_reader_names_L1 fuel ((k : Int), r, acc) = some (l, r') ∧ loopF (ref09_readList_L1 y3) fuel (st (i : Int) q m) = some (dn q' m2) ∧ Sim y r' q' ∧ (r'.ok_ = true → r.ok_ = true ∧ m2 = { m with Names_ := l }) ∧ (r'.ok_ = true → (∀ x ∈ acc, True) → ∀ x ∈ l, True) := by
 induction k with
 | zero =>
  intro fuel i r q acc m hS hn hi hf hl hm
  obtain ⟨fuel, rfl⟩ : ∃ f, fuel = f + 1 := ⟨fuel - 1, by omega⟩
  refine ⟨acc, r, q, m, loop_done ?_, loop_done (nd_names ?_), hS, fun ho => ⟨ho, ?_⟩, fun _ h => h⟩
  ·unfold wire_reader_names_L1
   exact cond_f (by simp) rfl
  ·rw [hn]
   simp
  ·rw [← hm ho]
 | succ k ih =>
  intro fuel i r q acc m hS hn hi hf hl hm
  obtain ⟨fuel, rfl⟩ : ∃ f, fuel = f + 1 := ⟨fuel - 1, by omega⟩
  have hS0 := hS
  rcases hS with ⟨a, ha, rfl, rfl⟩ | ⟨a, S, rfl, rfl, hSl⟩
  ·obtain ⟨v, r1, u, q1, a1, b1, s1, e1⟩ := ttext hs hS0
   obtain rfl := hm rfl
   obtain ⟨l, r', q', m2, g1, g2, g3, g4, g5⟩ := ih fuel (i + 1) r1 q1 (m.Names_ ++ [v]) { m with Names_ := m.Names_ ++ [u] } s1 (by rw [hn]; congr 1; omega) (by omega) (by omega) (by simp; omega) (fun ho => by obtain ⟨_, rfl⟩ := e1 ho; rfl)
   refine ⟨l, r', q', m2, loop_next ?_ g1, loop_next ?_ g2, g3, fun ho => ⟨rfl, (g4 ho).2⟩, fun ho hx => g5 ho fun x hm => ?_⟩
   ·unfold wire_reader_names_L1
    refine cond_t (by simp <;> omega) (bind_eq a1 (bind_eq (room_eq (by simp; omega) (by simp; omega)) ?_))
    have e6 : w64 (((k + 1 : Nat) : Int) - 1) = (k : Int) := by rw [w64_eq ⟨by omega, by omega⟩]; omega
    show some (Step.next (w64 (((k + 1 : Nat) : Int) - 1), r1, m.Names_ ++ [v])) = _
    rw [e6]
   ·have e6 : w64 ((i : Int) + 1) = ((i + 1 : Nat) : Int) := by rw [w64_eq ⟨by omega, by omega⟩]; rfl
    rw [← e6]
    refine nx_names ?_ b1 (room_eq (xs := m.Names_) (by simp; omega) (by simp; omega))
    rw [hn]
    simp; omega
   ·rcases List.mem_append.1 hm with hm | hm
    ·exact hx x hm
    ·obtain rfl := List.mem_singleton.1 hm
     exact trivial
  ·refine ⟨acc, ⟨y, a, false⟩, ⟨S, true⟩, m, loop_done ?_, loop_done (nd_names ?_), .inr ⟨a, S, rfl, rfl, hSl⟩, (fun ho => nomatch ho), (fun ho => nomatch ho)⟩
   ·unfold wire_reader_names_L1
    exact cond_f (by simp) rfl
   ·simp
theorem nd_qids {y3 : ref09_In × Int} {i : Int} {q : ref09_In} {m : api_Msg} (h : (decide (i < y3.2) && !q.Bad_) = false) : ref09_readList_L2 y3 (st i q m) = some (.done (dn q m)) := by
 unfold ref09_readList_L2
 exact cond_f h rfl
theorem nx_qids {y3 : ref09_In × Int} {i : Int} {q q1 : ref09_In} {m : api_Msg} {u : api_Qid} {l : List api_Qid} (h : (decide (i < y3.2) && !q.Bad_) = true) (hu : ref09_getQid q = some (q1, u)) (hr : room 24 m.Qids_ [u] = some l) : ref09_readList_L2 y3 (st i q m) = some (.next (st (w64 (i + 1)) q1 { m with Qids_ := l })) := by
 unfold ref09_readList_L2
 exact cond_t h (bind_eq hu (bind_eq hr rfl))
theorem tw_qids_loop (y : Str) (hs : y.length ≤ 1000000) (y3 : ref09_In × Int) (k : Nat) : ∀ (fuel i : Nat) (r : wire_reader) (q : ref09_In) (acc : List api_Qid) (m : api_Msg), Sim y r q → y3.2 = ((i + k : Nat) : Int) → i + k ≤ 65535 → k < fuel → acc.length + k ≤ 65535 → (r.ok_ = true → m.Qids_ = acc) →
  ∃ l r' q' m2, loopF wire_reader_qids_L1 fuel ((k : Int), r, acc) = some (l, r') ∧ loopF (ref09_readList_L2 y3) fuel (st (i : Int) q m) = some (dn q' m2) ∧ Sim y r' q' ∧ (r'.ok_ = true → r.ok_ = true ∧ m2 = { m with Qids_ := l }) ∧ (r'.ok_ = true → (∀ x ∈ acc, x.ok) → ∀ x ∈ l, x.ok) := by
 induction k with
 | zero =>
  intro fuel i r q acc m hS hn hi hf hl hm
  obtain ⟨fuel, rfl⟩ : ∃ f, fuel = f + 1 := ⟨fuel - 1, by omega⟩
  refine ⟨acc, r, q, m, loop_done ?_, loop_done (nd_qids ?_), hS, fun ho => ⟨ho, ?_⟩, fun _ h => h⟩
  ·unfold wire_reader_qids_L1
   exact cond_f (by simp) rfl
  ·rw [hn]
   simp
  ·rw [← hm ho]
 | succ k ih =>
  intro fuel i r q acc m hS hn hi hf hl hm
  obtain ⟨fuel, rfl⟩ : ∃ f, fuel = f + 1 := ⟨fuel - 1, by omega⟩
  have hS0 := hS
  rcases hS with ⟨a, ha, rfl, rfl⟩ | ⟨a, S, rfl, rfl, hSl⟩
  ·obtain ⟨v, r1, u, q1, a1, b1, s1, e1⟩ := tqid hs hS0
   obtain rfl := hm rfl
   obtain ⟨l, r', q', m2, g1, g2, g3, g4, g5⟩ := ih fuel (i + 1) r1 q1 (m.Qids_ ++ [v]) { m with Qids_ := m.Qids_ ++ [u] } s1 (by rw [hn]; congr 1; omega) (by omega) (by omega) (by simp; omega) (fun ho => by obtain ⟨_, rfl⟩ := e1 ho; rfl)
   refine ⟨l, r', q', m2, loop_next ?_ g1, loop_next ?_ g2, g3, fun ho => ⟨rfl, (g4 ho).2⟩, fun ho hx => g5 ho fun x hm => ?_⟩
   ·unfold wire_reader_qids_L1
    refine cond_t (by simp <;> omega) (bind_eq a1 (bind_eq (room_eq (by simp; omega) (by simp; omega)) ?_))
    have e6 : w64 (((k + 1 : Nat) : Int) - 1) = (k : Int) := by rw [w64_eq ⟨by omega, by omega⟩]; omega
    show some (Step.next (w64 (((k + 1 : Nat) : Int) - 1), r1, m.Qids_ ++ [v])) = _
    rw [e6]
   ·have e6 : w64 ((i : Int) + 1) = ((i + 1 : Nat) : Int) := by rw [w64_eq ⟨by omega, by omega⟩]; rfl
    rw [← e6]
    refine nx_qids ?_ b1 (room_eq (xs := m.Qids_) (by simp; omega) (by simp; omega))
    rw [hn]
    simp; omega
   ·rcases List.mem_append.1 hm with hm | hm
    ·exact hx x hm
    ·obtain rfl := List.mem_singleton.1 hm
     exact qid_in hs hS0 a1 (g4 ho).1
  ·refine ⟨acc, ⟨y, a, false⟩, ⟨S, true⟩, m, loop_done ?_, loop_done (nd_qids ?_), .inr ⟨a, S, rfl, rfl, hSl⟩, (fun ho => nomatch ho), (fun ho => nomatch ho)⟩
   ·unfold wire_reader_qids_L1
    exact cond_f (by simp) rfl
   ·simp
def MQ (m : api_Msg) : Prop := (∀ x ∈ m.Qids_, x.ok) ∧ m.Qid_.ok
def Fld (y : Str) (r : wire_reader) (m m' : api_Msg) (x : Option (wire_reader × api_Msg)) (z : Option (ref09_In × api_Msg)) : Prop := ∃ r1 m1 q1 m2, x = some (r1, m1) ∧ z = some (q1, m2) ∧ Sim y r1 q1 ∧ (r1.ok_ = true → r.ok_ = true ∧ (m = m' → m1 = m2)) ∧ (r1.ok_ = true → MQ m → MQ m1)
theorem f_m {y : Str} {r : wire_reader} {q : ref09_In} (m m' : api_Msg) (hs : y.length ≤ 1000000) (h : Sim y r q) : Fld y r m m' (wire_reader_field r m 109) (ref09_read q m' 1) := by
 obtain ⟨v, r1, u, q1, a1, b1, s1, e1⟩ := tnum (n := 4) (by omega) (by omega) hs h
 refine ⟨r1, { m with Msize_ := v }, q1, { m' with Msize_ := u }, ?_, ?_, s1, fun ho => ⟨(e1 ho).1, fun e => by rw [(e1 ho).2, e]⟩, fun ho h' => h'⟩
 ·unfold wire_reader_field
  exact cond_t rfl (bind_eq a1 rfl)
 ·unfold ref09_read
  exact bind_eq (cond_t rfl (bind_eq b1 rfl)) rfl
theorem f_v {y : Str} {r : wire_reader} {q : ref09_In} (m m' : api_Msg) (hs : y.length ≤ 1000000) (h : Sim y r q) : Fld y r m m' (wire_reader_field r m 118) (ref09_read q m' 2) := by
 obtain ⟨v, r1, u, q1, a1, b1, s1, e1⟩ := ttext hs h
 refine ⟨r1, { m with Version_ := v }, q1, { m' with Version_ := u }, ?_, ?_, s1, fun ho => ⟨(e1 ho).1, fun e => by rw [(e1 ho).2, e]⟩, fun ho h' => h'⟩
 ·unfold wire_reader_field
  exact cond_f rfl (cond_t rfl (bind_eq a1 rfl))
 ·unfold ref09_read
  exact bind_eq (cond_f rfl (cond_t rfl (bind_eq b1 rfl))) rfl
theorem f_s {y : Str} {r : wire_reader} {q : ref09_In} (m m' : api_Msg) (hs : y.length ≤ 1000000) (h : Sim y r q) : Fld y r m m' (wire_reader_field r m 115) (ref09_read q m' 3) := by
 obtain ⟨v, r1, u, q1, a1, b1, s1, e1⟩ := ttext hs h
 refine ⟨r1, { m with Session_ := v }, q1, { m' with Session_ := u }, ?_, ?_, s1, fun ho => ⟨(e1 ho).1, fun e => by rw [(e1 ho).2, e]⟩, fun ho h' => h'⟩
 ·unfold wire_reader_field
  exact cond_f rfl (cond_f rfl (cond_t rfl (bind_eq a1 rfl)))
 ·unfold ref09_read
  exact bind_eq (cond_f rfl (cond_f rfl (cond_t rfl (bind_eq b1 rfl)))) rfl
theorem f_a {y : Str} {r : wire_reader} {q : ref09_In} (m m' : api_Msg) (hs : y.length ≤ 1000000) (h : Sim y r q) : Fld y r m m' (wire_reader_field r m 97) (ref09_read q m' 4) := by
 obtain ⟨v, r1, u, q1, a1, b1, s1, e1⟩ := tnum (n := 4) (by omega) (by omega) hs h
 refine ⟨r1, { m with AuthFid_ := v }, q1, { m' with AuthFid_ := u }, ?_, ?_, s1, fun ho => ⟨(e1 ho).1, fun e => by rw [(e1 ho).2, e]⟩, fun ho h' => h'⟩
 ·unfold wire_reader_field
  exact cond_f rfl (cond_f rfl (cond_f rfl (cond_t rfl (bind_eq a1 rfl))))
 ·unfold ref09_read
  exact bind_eq (cond_f rfl (cond_f rfl (cond_f rfl (cond_t rfl (bind_eq b1 rfl))))) rfl
theorem f_u {y : Str} {r : wire_reader} {q : ref09_In} (m m' : api_Msg) (hs : y.length ≤ 1000000) (h : Sim y r q) : Fld y r m m' (wire_reader_field r m 117) (ref09_read q m' 5) := by
 obtain ⟨v, r1, u, q1, a1, b1, s1, e1⟩ := ttext hs h
 refine ⟨r1, { m with User_ := v }, q1, { m' with User_ := u }, ?_, ?_, s1, fun ho => ⟨(e1 ho).1, fun e => by rw [(e1 ho).2, e]⟩, fun ho h' => h'⟩
 ·unfold wire_reader_field
  exact cond_f rfl (cond_f rfl (cond_f rfl (cond_f rfl (cond_t rfl (bind_eq a1 rfl)))))
 ·unfold ref09_read
  exact bind_eq (cond_f rfl (cond_f rfl (cond_f rfl (cond_f rfl (cond_t rfl (bind_eq b1 rfl)))))) rfl
theorem f_x {y : Str} {r : wire_reader} {q : ref09_In} (m m' : api_Msg) (hs : y.length ≤ 1000000) (h : Sim y r q) : Fld y r m m' (wire_reader_field r m 120) (ref09_read q m' 6) := by
 obtain ⟨v, r1, u, q1, a1, b1, s1, e1⟩ := ttext hs h
 refine ⟨r1, { m with Attach_ := v }, q1, { m' with Attach_ := u }, ?_, ?_, s1, fun ho => ⟨(e1 ho).1, fun e => by rw [(e1 ho).2, e]⟩, fun ho h' => h'⟩
 ·unfold wire_reader_field
  exact cond_f rfl (cond_f rfl (cond_f rfl (cond_f rfl (cond_f rfl (cond_t rfl (bind_eq a1 rfl))))))
 ·unfold ref09_read
  exact bind_eq (cond_f rfl (cond_f rfl (cond_f rfl (cond_f rfl (cond_f rfl (cond_t rfl (bind_eq b1 rfl))))))) rfl
theorem f_q {y : Str} {r : wire_reader} {q : ref09_In} (m m' : api_Msg) (hs : y.length ≤ 1000000) (h : Sim y r q) : Fld y r m m' (wire_reader_field r m 113) (ref09_read q m' 7) := by
 obtain ⟨v, r1, u, q1, a1, b1, s1, e1⟩ := tqid hs h
 refine ⟨r1, { m with Qid_ := v }, q1, { m' with Qid_ := u }, ?_, ?_, s1, fun ho => ⟨(e1 ho).1, fun e => by rw [(e1 ho).2, e]⟩, fun ho h' => ⟨h'.1, qid_in hs h a1 ho⟩⟩
 ·unfold wire_reader_field
  exact cond_f rfl (cond_f rfl (cond_f rfl (cond_f rfl (cond_f rfl (cond_f rfl (cond_t rfl (bind_eq a1 rfl)))))))
 ·unfold ref09_read
  exact bind_eq (cond_f rfl (cond_f rfl (cond_f rfl (cond_f rfl (cond_f rfl (cond_f rfl (cond_t rfl (bind_eq b1 rfl)))))))) rfl
theorem f_f {y : Str} {r : wire_reader} {q : ref09_In} (m m' : api_Msg) (hs : y.length ≤ 1000000) (h : Sim y r q) : Fld y r m m' (wire_reader_field r m 102) (ref09_read q m' 8) := by
 obtain ⟨v, r1, u, q1, a1, b1, s1, e1⟩ := tnum (n := 4) (by omega) (by omega) hs h
 refine ⟨r1, { m with Fid_ := v }, q1, { m' with Fid_ := u }, ?_, ?_, s1, fun ho => ⟨(e1 ho).1, fun e => by rw [(e1 ho).2, e]⟩, fun ho h' => h'⟩
 ·unfold wire_reader_field
  exact cond_f rfl (cond_f rfl (cond_f rfl (cond_f rfl (cond_f rfl (cond_f rfl (cond_f rfl (cond_t rfl (bind_eq a1 rfl))))))))
 ·unfold ref09_read
  exact bind_eq (cond_f rfl (cond_f rfl (cond_f rfl (cond_f rfl (cond_f rfl (cond_f rfl (cond_f rfl (cond_t rfl (bind_eq b1 rfl))))))))) rfl
theorem f_e {y : Str} {r : wire_reader} {q : ref09_In} (m m' : api_Msg) (hs : y.length ≤ 1000000) (h : Sim y r q) : Fld y r m m' (wire_reader_field r m 101) (ref09_read q m' 9) := by
 obtain ⟨v, r1, u, q1, a1, b1, s1, e1⟩ := tfault hs h
 refine ⟨r1, { m with Err_ := v }, q1, { m' with Err_ := u }, ?_, ?_, s1, fun ho => ⟨(e1 ho).1, fun e => by rw [(e1 ho).2, e]⟩, fun ho h' => h'⟩
 ·unfold wire_reader_field
  exact cond_f rfl (cond_f rfl (cond_f rfl (cond_f rfl (cond_f rfl (cond_f rfl (cond_f rfl (cond_f rfl (cond_t rfl (bind_eq a1 rfl)))))))))
 ·obtain ⟨x, bx, b1⟩ := bind_split b1
  obtain ⟨z, bz, b1⟩ := bind_split b1
  obtain ⟨rfl, rfl⟩ := Prod.mk.inj (Option.some.inj b1)
  unfold ref09_read
  refine bind_eq (cond_f rfl (cond_f rfl (cond_f rfl (cond_f rfl (cond_f rfl (cond_f rfl (cond_f rfl (cond_f rfl (cond_f rfl (cond_f rfl (cond_f rfl (cond_f rfl (cond_f rfl (cond_f rfl (cond_f rfl (cond_f rfl (cond_f rfl (cond_f rfl (bind_eq (a := (_, { m' with Err_ := _ })) ?_ rfl))))))))))))))))))) rfl
  unfold ref09_readList
  exact bind_eq (cond_t rfl (bind_eq bx (bind_eq bz rfl))) rfl
theorem f_o {y : Str} {r : wire_reader} {q : ref09_In} (m m' : api_Msg) (hs : y.length ≤ 1000000) (h : Sim y r q) : Fld y r m m' (wire_reader_field r m 111) (ref09_read q m' 10) := by
 obtain ⟨v, r1, u, q1, a1, b1, s1, e1⟩ := tnum (n := 2) (by omega) (by omega) hs h
 refine ⟨r1, { m with OldTag_ := v }, q1, { m' with OldTag_ := u }, ?_, ?_, s1, fun ho => ⟨(e1 ho).1, fun e => by rw [(e1 ho).2, e]⟩, fun ho h' => h'⟩
 ·unfold wire_reader_field
  exact cond_f rfl (cond_f rfl (cond_f rfl (cond_f rfl (cond_f rfl (cond_f rfl (cond_f rfl (cond_f rfl (cond_f rfl (cond_t rfl (bind_eq a1 rfl))))))))))
 ·unfold ref09_read
  exact bind_eq (cond_f rfl (cond_f rfl (cond_f rfl (cond_f rfl (cond_f rfl (cond_f rfl (cond_f rfl (cond_f rfl (cond_t rfl (bind_eq b1 rfl)))))))))) rfl
theorem f_n {y : Str} {r : wire_reader} {q : ref09_In} (m m' : api_Msg) (hs : y.length ≤ 1000000) (h : Sim y r q) : Fld y r m m' (wire_reader_field r m 110) (ref09_read q m' 11) := by
 obtain ⟨v, r1, u, q1, a1, b1, s1, e1⟩ := tnum (n := 4) (by omega) (by omega) hs h
 refine ⟨r1, { m with NewFid_ := v }, q1, { m' with NewFid_ := u }, ?_, ?_, s1, fun ho => ⟨(e1 ho).1, fun e => by rw [(e1 ho).2, e]⟩, fun ho h' => h'⟩
 ·unfold wire_reader_field
  exact cond_f rfl (cond_f rfl (cond_f rfl (cond_f rfl (cond_f rfl (cond_f rfl (cond_f rfl (cond_f rfl (cond_f rfl (cond_f rfl (cond_t rfl (bind_eq a1 rfl)))))))))))
 ·unfold ref09_read
  exact bind_eq (cond_f rfl (cond_f rfl (cond_f rfl (cond_f rfl (cond_f rfl (cond_f rfl (cond_f rfl (cond_f rfl (cond_f rfl (cond_t rfl (bind_eq b1 rfl))))))))))) rfl
theorem f_w {y : Str} {r : wire_reader} {q : ref09_In} (m m' : api_Msg) (hs : y.length ≤ 1000000) (h : Sim y r q) (hm : r.ok_ = true → m'.Names_ = []) : Fld y r m m' (wire_reader_field r m 119) (ref09_read q m' 12) := by
 rcases snum (n := 2) (by omega) (by omega) hs h with ⟨a, ha, ⟨ho, _⟩, e1, e2⟩ | ⟨v, a, e1, e2⟩
 ·have hv := leV_two y a ha
  obtain ⟨l, r', q', m2, g1, g2, g3, g4, g5⟩ := tw_names_loop y hs (⟨y.drop (a + 2), false⟩, (leV (win y a 2) : Int)) (leV (win y a 2)) BIG 0 ⟨y, ((a + 2 : Nat) : Int), true⟩ ⟨y.drop (a + 2), false⟩ [] m' (.inl ⟨a + 2, ha, rfl, rfl⟩) (by rw [Nat.zero_add]) (by omega) (by show _ < 18446744073709551616; omega) (by simp; omega) (fun _ => hm ho)
  have x1 : wire_reader_names r = some (l, r') := by
   unfold wire_reader_names
   exact bind_eq e1 (bind_eq g1 rfl)
  have x2 : ref09_readList q m' 12 = some (q', m2) := by
   unfold ref09_readList
   exact bind_eq (cond_f rfl (cond_t rfl (bind_eq e2 (bind_eq g2 rfl)))) rfl
  refine ⟨r', { m with Names_ := l }, q', m2, ?_, ?_, g3, fun ho' => ⟨ho, fun e => ?_⟩, fun ho' h => h⟩
  ·unfold wire_reader_field
   exact cond_f rfl (cond_f rfl (cond_f rfl (cond_f rfl (cond_f rfl (cond_f rfl (cond_f rfl (cond_f rfl (cond_f rfl (cond_f rfl (cond_f rfl (cond_t rfl (bind_eq x1 rfl))))))))))))
  ·unfold ref09_read
   exact bind_eq (cond_f rfl (cond_f rfl (cond_f rfl (cond_f rfl (cond_f rfl (cond_f rfl (cond_f rfl (cond_f rfl (cond_f rfl (cond_f rfl (cond_f rfl (cond_f rfl (cond_f rfl (cond_f rfl (cond_f rfl (cond_f rfl (cond_f rfl (cond_f rfl (bind_eq x2 rfl))))))))))))))))))) rfl
  ·rw [(g4 ho').2, e]
 ·have x1 : wire_reader_names r = some ([], ⟨y, a, false⟩) := by
   unfold wire_reader_names
   refine bind_eq e1 (bind_eq (loop_done (n := 18446744073709551615) (b := ([], (⟨y, a, false⟩ : wire_reader))) ?_) rfl)
   unfold wire_reader_names_L1
   exact cond_f (by simp) rfl
  have x3 : loopF (ref09_readList_L1 (⟨[], true⟩, 0)) BIG (st 0 ⟨[], true⟩ m') = some (dn ⟨[], true⟩ m') := by
   refine loop_done (n := 18446744073709551615) ?_
   unfold ref09_readList_L1
   exact cond_f rfl rfl
  have x2 : ref09_readList q m' 12 = some (⟨[], true⟩, m') := by
   unfold ref09_readList
   exact bind_eq (cond_f rfl (cond_t rfl (bind_eq e2 (bind_eq x3 rfl)))) rfl
  refine ⟨⟨y, a, false⟩, { m with Names_ := [] }, ⟨[], true⟩, m', ?_, ?_, .inr ⟨a, [], rfl, rfl, bad_len⟩, (fun e => nomatch e), (fun e => nomatch e)⟩
  ·unfold wire_reader_field
   exact cond_f rfl (cond_f rfl (cond_f rfl (cond_f rfl (cond_f rfl (cond_f rfl (cond_f rfl (cond_f rfl (cond_f rfl (cond_f rfl (cond_f rfl (cond_t rfl (bind_eq x1 rfl))))))))))))
  ·unfold ref09_read
   exact bind_eq (cond_f rfl (cond_f rfl (cond_f rfl (cond_f rfl (cond_f rfl (cond_f rfl (cond_f rfl (cond_f rfl (cond_f rfl (cond_f rfl (cond_f rfl (cond_f rfl (cond_f rfl (cond_f rfl (cond_f rfl (cond_f rfl (cond_f rfl (cond_f rfl (bind_eq x2 rfl))))))))))))))))))) rfl
theorem f_W {y : Str} {r : wire_reader} {q : ref09_In} (m m' : api_Msg) (hs : y.length ≤ 1000000) (h : Sim y r q) (hm : r.ok_ = true → m'.Qids_ = []) : Fld y r m m' (wire_reader_field r m 87) (ref09_read q m' 13) := by
 rcases snum (n := 2) (by omega) (by omega) hs h with ⟨a, ha, ⟨ho, _⟩, e1, e2⟩ | ⟨v, a, e1, e2⟩
 ·have hv := leV_two y a ha
  obtain ⟨l, r', q', m2, g1, g2, g3, g4, g5⟩ := tw_qids_loop y hs (⟨y.drop (a + 2), false⟩, (leV (win y a 2) : Int)) (leV (win y a 2)) BIG 0 ⟨y, ((a + 2 : Nat) : Int), true⟩ ⟨y.drop (a + 2), false⟩ [] m' (.inl ⟨a + 2, ha, rfl, rfl⟩) (by rw [Nat.zero_add]) (by omega) (by show _ < 18446744073709551616; omega) (by simp; omega) (fun _ => hm ho)
  have x1 : wire_reader_qids r = some (l, r') := by
   unfold wire_reader_qids
   exact bind_eq e1 (bind_eq g1 rfl)
  have x2 : ref09_readList q m' 13 = some (q', m2) := by
   unfold ref09_readList
   exact bind_eq (cond_f rfl (cond_f rfl (cond_t rfl (bind_eq e2 (bind_eq g2 rfl))))) rfl
  refine ⟨r', { m with Qids_ := l }, q', m2, ?_, ?_, g3, fun ho' => ⟨ho, fun e => ?_⟩, fun ho' h => ⟨g5 ho' (fun _ hx => nomatch hx), h.2⟩⟩
  ·unfold wire_reader_field
   exact cond_f rfl (cond_f rfl (cond_f rfl (cond_f rfl (cond_f rfl (cond_f rfl (cond_f rfl (cond_f rfl (cond_f rfl (cond_f rfl (cond_f rfl (cond_f rfl (cond_t rfl (bind_eq x1 rfl)))))))))))))
  ·unfold ref09_read
   exact bind_eq (cond_f rfl (cond_f rfl (cond_f rfl (cond_f rfl (cond_f rfl (cond_f rfl (cond_f rfl (cond_f rfl (cond_f rfl (cond_f rfl (cond_f rfl (cond_f rfl (cond_f rfl (cond_f rfl (cond_f rfl (cond_f rfl (cond_f rfl (cond_f rfl (bind_eq x2 rfl))))))))))))))))))) rfl
  ·rw [(g4 ho').2, e]
 ·have x1 : wire_reader_qids r = some ([], ⟨y, a, false⟩) := by
   unfold wire_reader_qids
   refine bind_eq e1 (bind_eq (loop_done (n := 18446744073709551615) (b := ([], (⟨y, a, false⟩ : wire_reader))) ?_) rfl)
   unfold wire_reader_qids_L1
   exact cond_f (by simp) rfl
  have x3 : loopF (ref09_readList_L2 (⟨[], true⟩, 0)) BIG (st 0 ⟨[], true⟩ m') = some (dn ⟨[], true⟩ m') := by
   refine loop_done (n := 18446744073709551615) ?_
   unfold ref09_readList_L2
   exact cond_f rfl rfl
  have x2 : ref09_readList q m' 13 = some (⟨[], true⟩, m') := by
   unfold ref09_readList
   exact bind_eq (cond_f rfl (cond_f rfl (cond_t rfl (bind_eq e2 (bind_eq x3 rfl))))) rfl
  refine ⟨⟨y, a, false⟩, { m with Qids_ := [] }, ⟨[], true⟩, m', ?_, ?_, .inr ⟨a, [], rfl, rfl, bad_len⟩, (fun e => nomatch e), (fun e => nomatch e)⟩
  ·unfold wire_reader_field
   exact cond_f rfl (cond_f rfl (cond_f rfl (cond_f rfl (cond_f rfl (cond_f rfl (cond_f rfl (cond_f rfl (cond_f rfl (cond_f rfl (cond_f rfl (cond_f rfl (cond_t rfl (bind_eq x1 rfl)))))))))))))
  ·unfold ref09_read
   exact bind_eq (cond_f rfl (cond_f rfl (cond_f rfl (cond_f rfl (cond_f rfl (cond_f rfl (cond_f rfl (cond_f rfl (cond_f rfl (cond_f rfl (cond_f rfl (cond_f rfl (cond_f rfl (cond_f rfl (cond_f rfl (cond_f rfl (cond_f rfl (cond_f rfl (bind_eq x2 rfl))))))))))))))))))) rfl
theorem f_M {y : Str} {r : wire_reader} {q : ref09_In} (m m' : api_Msg) (hs : y.length ≤ 1000000) (h : Sim y r q) : Fld y r m m' (wire_reader_field r m 77) (ref09_read q m' 14) := by
 obtain ⟨v, r1, u, q1, a1, b1, s1, e1⟩ := tnum (n := 1) (by omega) (by omega) hs h
 refine ⟨r1, { m with Mode_ := v }, q1, { m' with Mode_ := u }, ?_, ?_, s1, fun ho => ⟨(e1 ho).1, fun e => by rw [(e1 ho).2, e]⟩, fun ho h' => h'⟩
 ·unfold wire_reader_field
  exact cond_f rfl (cond_f rfl (cond_f rfl (cond_f rfl (cond_f rfl (cond_f rfl (cond_f rfl (cond_f rfl (cond_f rfl (cond_f rfl (cond_f rfl (cond_f rfl (cond_f rfl (cond_t rfl (bind_eq a1 rfl))))))))))))))
 ·unfold ref09_read
  exact bind_eq (cond_f rfl (cond_f rfl (cond_f rfl (cond_f rfl (cond_f rfl (cond_f rfl (cond_f rfl (cond_f rfl (cond_f rfl (cond_f rfl (cond_t rfl (bind_eq b1 rfl)))))))))))) rfl
theorem f_i {y : Str} {r : wire_reader} {q : ref09_In} (m m' : api_Msg) (hs : y.length ≤ 1000000) (h : Sim y r q) : Fld y r m m' (wire_reader_field r m 105) (ref09_read q m' 15) := by
 obtain ⟨v, r1, u, q1, a1, b1, s1, e1⟩ := tnum (n := 4) (by omega) (by omega) hs h
 refine ⟨r1, { m with Iounit_ := v }, q1, { m' with Iounit_ := u }, ?_, ?_, s1, fun ho => ⟨(e1 ho).1, fun e => by rw [(e1 ho).2, e]⟩, fun ho h' => h'⟩
 ·unfold wire_reader_field
  exact cond_f rfl (cond_f rfl (cond_f rfl (cond_f rfl (cond_f rfl (cond_f rfl (cond_f rfl (cond_f rfl (cond_f rfl (cond_f rfl (cond_f rfl (cond_f rfl (cond_f rfl (cond_f rfl (cond_t rfl (bind_eq a1 rfl)))))))))))))))
 ·unfold ref09_read
  exact bind_eq (cond_f rfl (cond_f rfl (cond_f rfl (cond_f rfl (cond_f rfl (cond_f rfl (cond_f rfl (cond_f rfl (cond_f rfl (cond_f rfl (cond_f rfl (cond_t rfl (bind_eq b1 rfl))))))))))))) rfl
theorem f_N {y : Str} {r : wire_reader} {q : ref09_In} (m m' : api_Msg) (hs : y.length ≤ 1000000) (h : Sim y r q) : Fld y r m m' (wire_reader_field r m 78) (ref09_read q m' 16) := by
 obtain ⟨v, r1, u, q1, a1, b1, s1, e1⟩ := ttext hs h
 refine ⟨r1, { m with Name_ := v }, q1, { m' with Name_ := u }, ?_, ?_, s1, fun ho => ⟨(e1 ho).1, fun e => by rw [(e1 ho).2, e]⟩, fun ho h' => h'⟩
 ·unfold wire_reader_field
  exact cond_f rfl (cond_f rfl (cond_f rfl (cond_f rfl (cond_f rfl (cond_f rfl (cond_f rfl (cond_f rfl (cond_f rfl (cond_f rfl (cond_f rfl (cond_f rfl (cond_f rfl (cond_f rfl (cond_f rfl (cond_t rfl (bind_eq a1 rfl))))))))))))))))
 ·unfold ref09_read
  exact bind_eq (cond_f rfl (cond_f rfl (cond_f rfl (cond_f rfl (cond_f rfl (cond_f rfl (cond_f rfl (cond_f rfl (cond_f rfl (cond_f rfl (cond_f rfl (cond_f rfl (cond_t rfl (bind_eq b1 rfl)))))))))))))) rfl
theorem f_p {y : Str} {r : wire_reader} {q : ref09_In} (m m' : api_Msg) (hs : y.length ≤ 1000000) (h : Sim y r q) : Fld y r m m' (wire_reader_field r m 112) (ref09_read q m' 17) := by
 obtain ⟨v, r1, u, q1, a1, b1, s1, e1⟩ := tnum (n := 4) (by omega) (by omega) hs h
 refine ⟨r1, { m with Perm_ := v }, q1, { m' with Perm_ := u }, ?_, ?_, s1, fun ho => ⟨(e1 ho).1, fun e => by rw [(e1 ho).2, e]⟩, fun ho h' => h'⟩
 ·unfold wire_reader_field
  exact cond_f rfl (cond_f rfl (cond_f rfl (cond_f rfl (cond_f rfl (cond_f rfl (cond_f rfl (cond_f rfl (cond_f rfl (cond_f rfl (cond_f rfl (cond_f rfl (cond_f rfl (cond_f rfl (cond_f rfl (cond_f rfl (cond_t rfl (bind_eq a1 rfl)))))))))))))))))
 ·unfold ref09_read
  exact bind_eq (cond_f rfl (cond_f rfl (cond_f rfl (cond_f rfl (cond_f rfl (cond_f rfl (cond_f rfl (cond_f rfl (cond_f rfl (cond_f rfl (cond_f rfl (cond_f rfl (cond_f rfl (cond_t rfl (bind_eq b1 rfl))))))))))))))) rfl
theorem f_O {y : Str} {r : wire_reader} {q : ref09_In} (m m' : api_Msg) (hs : y.length ≤ 1000000) (h : Sim y r q) : Fld y r m m' (wire_reader_field r m 79) (ref09_read q m' 18) := by
 obtain ⟨v, r1, u, q1, a1, b1, s1, e1⟩ := tnum (n := 8) (by omega) (by omega) hs h
 refine ⟨r1, { m with Offset_ := v }, q1, { m' with Offset_ := u }, ?_, ?_, s1, fun ho => ⟨(e1 ho).1, fun e => by rw [(e1 ho).2, e]⟩, fun ho h' => h'⟩
 ·unfold wire_reader_field
  exact cond_f rfl (cond_f rfl (cond_f rfl (cond_f rfl (cond_f rfl (cond_f rfl (cond_f rfl (cond_f rfl (cond_f rfl (cond_f rfl (cond_f rfl (cond_f rfl (cond_f rfl (cond_f rfl (cond_f rfl (cond_f rfl (cond_f rfl (cond_t rfl (bind_eq a1 rfl))))))))))))))))))
 ·unfold ref09_read
  exact bind_eq (cond_f rfl (cond_f rfl (cond_f rfl (cond_f rfl (cond_f rfl (cond_f rfl (cond_f rfl (cond_f rfl (cond_f rfl (cond_f rfl (cond_f rfl (cond_f rfl (cond_f rfl (cond_f rfl (cond_t rfl (bind_eq b1 rfl)))))))))))))))) rfl
theorem f_c {y : Str} {r : wire_reader} {q : ref09_In} (m m' : api_Msg) (hs : y.length ≤ 1000000) (h : Sim y r q) : Fld y r m m' (wire_reader_field r m 99) (ref09_read q m' 19) := by
 obtain ⟨v, r1, u, q1, a1, b1, s1, e1⟩ := tnum (n := 4) (by omega) (by omega) hs h
 refine ⟨r1, { m with Count_ := v }, q1, { m' with Count_ := u }, ?_, ?_, s1, fun ho => ⟨(e1 ho).1, fun e => by rw [(e1 ho).2, e]⟩, fun ho h' => h'⟩
 ·unfold wire_reader_field
  exact cond_f rfl (cond_f rfl (cond_f rfl (cond_f rfl (cond_f rfl (cond_f rfl (cond_f rfl (cond_f rfl (cond_f rfl (cond_f rfl (cond_f rfl (cond_f rfl (cond_f rfl (cond_f rfl (cond_f rfl (cond_f rfl (cond_f rfl (cond_f rfl (cond_t rfl (bind_eq a1 rfl)))))))))))))))))))
 ·unfold ref09_read
  exact bind_eq (cond_f rfl (cond_f rfl (cond_f rfl (cond_f rfl (cond_f rfl (cond_f rfl (cond_f rfl (cond_f rfl (cond_f rfl (cond_f rfl (cond_f rfl (cond_f rfl (cond_f rfl (cond_f rfl (cond_f rfl (cond_t rfl (bind_eq b1 rfl))))))))))))))))) rfl
theorem f_d {y : Str} {r : wire_reader} {q : ref09_In} (m m' : api_Msg) (hs : y.length ≤ 1000000) (h : Sim y r q) : Fld y r m m' (wire_reader_field r m 100) (ref09_read q m' 20) := by
 obtain ⟨v, r1, u, q1, a1, b1, s1, e1⟩ := tdata (n := 4) (by omega) (by omega) hs h
 refine ⟨r1, { m with Data_ := v }, q1, { m' with Data_ := u }, ?_, ?_, s1, fun ho => ⟨(e1 ho).1, fun e => by rw [(e1 ho).2, e]⟩, fun ho h' => h'⟩
 ·unfold wire_reader_field
  exact cond_f rfl (cond_f rfl (cond_f rfl (cond_f rfl (cond_f rfl (cond_f rfl (cond_f rfl (cond_f rfl (cond_f rfl (cond_f rfl (cond_f rfl (cond_f rfl (cond_f rfl (cond_f rfl (cond_f rfl (cond_f rfl (cond_f rfl (cond_f rfl (cond_f rfl (cond_t rfl (bind_eq a1 rfl))))))))))))))))))))
 ·obtain ⟨x, bx, b1⟩ := bind_split b1
  unfold ref09_read
  refine bind_eq (cond_f rfl (cond_f rfl (cond_f rfl (cond_f rfl (cond_f rfl (cond_f rfl (cond_f rfl (cond_f rfl (cond_f rfl (cond_f rfl (cond_f rfl (cond_f rfl (cond_f rfl (cond_f rfl (cond_f rfl (cond_f rfl (cond_f rfl (cond_f rfl (bind_eq (a := (_, { m' with Data_ := _ })) ?_ rfl))))))))))))))))))) rfl
  unfold ref09_readList
  exact bind_eq (cond_f rfl (cond_f rfl (cond_f rfl (cond_t rfl (bind_eq bx (bind_eq b1 rfl)))))) rfl
theorem f_S {y : Str} {r : wire_reader} {q : ref09_In} (m m' : api_Msg) (hs : y.length ≤ 1000000) (h : Sim y r q) : Fld y r m m' (wire_reader_field r m 83) (ref09_read q m' 21) := by
 obtain ⟨v, r1, u, q1, a1, b1, s1, e1⟩ := tstat hs h
 refine ⟨r1, { m with Stat_ := v }, q1, { m' with Stat_ := u }, ?_, ?_, s1, fun ho => ⟨(e1 ho).1, fun e => by rw [(e1 ho).2, e]⟩, fun ho h' => h'⟩
 ·unfold wire_reader_field
  exact cond_f rfl (cond_f rfl (cond_f rfl (cond_f rfl (cond_f rfl (cond_f rfl (cond_f rfl (cond_f rfl (cond_f rfl (cond_f rfl (cond_f rfl (cond_f rfl (cond_f rfl (cond_f rfl (cond_f rfl (cond_f rfl (cond_f rfl (cond_f rfl (cond_f rfl (cond_f rfl (cond_t rfl (bind_eq a1 rfl)))))))))))))))))))))
 ·obtain ⟨x, bx, b1⟩ := bind_split b1
  obtain ⟨z, bz, b1⟩ := bind_split b1
  obtain ⟨d, bd, b1⟩ := bind_split b1
  obtain ⟨rfl, rfl⟩ := Prod.mk.inj (Option.some.inj b1)
  unfold ref09_read
  refine bind_eq (cond_f rfl (cond_f rfl (cond_f rfl (cond_f rfl (cond_f rfl (cond_f rfl (cond_f rfl (cond_f rfl (cond_f rfl (cond_f rfl (cond_f rfl (cond_f rfl (cond_f rfl (cond_f rfl (cond_f rfl (cond_f rfl (cond_f rfl (cond_f rfl (bind_eq (a := (_, { m' with Stat_ := _ })) ?_ rfl))))))))))))))))))) rfl
  unfold ref09_readList
  exact bind_eq (cond_f rfl (cond_f rfl (cond_f rfl (cond_f rfl (cond_t rfl (bind_eq bx (bind_eq bz (bind_eq bd rfl)))))))) rfl
theorem f_l {y : Str} {r : wire_reader} {q : ref09_In} (m m' : api_Msg) (hs : y.length ≤ 1000000) (h : Sim y r q) : Fld y r m m' (wire_reader_field r m 108) (ref09_read q m' 22) := by
 obtain ⟨v, r1, u, q1, a1, b1, s1, e1⟩ := tnum (n := 1) (by omega) (by omega) hs h
 refine ⟨r1, { m with Lease_ := v }, q1, { m' with Lease_ := u }, ?_, ?_, s1, fun ho => ⟨(e1 ho).1, fun e => by rw [(e1 ho).2, e]⟩, fun ho h' => h'⟩
 ·unfold wire_reader_field
  exact cond_f rfl (cond_f rfl (cond_f rfl (cond_f rfl (cond_f rfl (cond_f rfl (cond_f rfl (cond_f rfl (cond_f rfl (cond_f rfl (cond_f rfl (cond_f rfl (cond_f rfl (cond_f rfl (cond_f rfl (cond_f rfl (cond_f rfl (cond_f rfl (cond_f rfl (cond_f rfl (cond_f rfl (cond_t rfl (bind_eq a1 rfl))))))))))))))))))))))
 ·unfold ref09_read
  exact bind_eq (cond_f rfl (cond_f rfl (cond_f rfl (cond_f rfl (cond_f rfl (cond_f rfl (cond_f rfl (cond_f rfl (cond_f rfl (cond_f rfl (cond_f rfl (cond_f rfl (cond_f rfl (cond_f rfl (cond_f rfl (cond_f rfl (cond_t rfl (bind_eq b1 rfl)))))))))))))))))) rfl
theorem f_t {y : Str} {r : wire_reader} {q : ref09_In} (m m' : api_Msg) (hs : y.length ≤ 1000000) (h : Sim y r q) : Fld y r m m' (wire_reader_field r m 116) (ref09_read q m' 23) := by
 obtain ⟨v, r1, u, q1, a1, b1, s1, e1⟩ := tnum (n := 4) (by omega) (by omega) hs h
 refine ⟨r1, { m with Term_ := v }, q1, { m' with Term_ := u }, ?_, ?_, s1, fun ho => ⟨(e1 ho).1, fun e => by rw [(e1 ho).2, e]⟩, fun ho h' => h'⟩
 ·unfold wire_reader_field
  exact cond_f rfl (cond_f rfl (cond_f rfl (cond_f rfl (cond_f rfl (cond_f rfl (cond_f rfl (cond_f rfl (cond_f rfl (cond_f rfl (cond_f rfl (cond_f rfl (cond_f rfl (cond_f rfl (cond_f rfl (cond_f rfl (cond_f rfl (cond_f rfl (cond_f rfl (cond_f rfl (cond_f rfl (cond_f rfl (cond_t rfl (bind_eq a1 rfl)))))))))))))))))))))))
 ·unfold ref09_read
  exact bind_eq (cond_f rfl (cond_f rfl (cond_f rfl (cond_f rfl (cond_f rfl (cond_f rfl (cond_f rfl (cond_f rfl (cond_f rfl (cond_f rfl (cond_f rfl (cond_f rfl (cond_f rfl (cond_f rfl (cond_f rfl (cond_f rfl (cond_f rfl (cond_t rfl (bind_eq b1 rfl))))))))))))))))))) rfl
theorem tfield (k : Lt) {y : Str} {r : wire_reader} {q : ref09_In} (m m' : api_Msg) (hs : y.length ≤ 1000000) (h : Sim y r q) (hw : k = .w → r.ok_ = true → m'.Names_ = []) (hW : k = .W → r.ok_ = true → m'.Qids_ = []) : Fld y r m m' (wire_reader_field r m (k.byte : Int)) (ref09_read q m' k.num) := by
 cases k with
 | m => exact f_m m m' hs h
 | v => exact f_v m m' hs h
 | s => exact f_s m m' hs h
 | a => exact f_a m m' hs h
 | u => exact f_u m m' hs h
 | x => exact f_x m m' hs h
 | q => exact f_q m m' hs h
 | f => exact f_f m m' hs h
 | e => exact f_e m m' hs h
 | o => exact f_o m m' hs h
 | n => exact f_n m m' hs h
 | w => exact f_w m m' hs h (hw rfl)
 | W => exact f_W m m' hs h (hW rfl)
 | M => exact f_M m m' hs h
 | i => exact f_i m m' hs h
 | N => exact f_N m m' hs h
 | p => exact f_p m m' hs h
 | O => exact f_O m m' hs h
 | c => exact f_c m m' hs h
 | d => exact f_d m m' hs h
 | S => exact f_S m m' hs h
 | l => exact f_l m m' hs h
 | t => exact f_t m m' hs h
abbrev GsT : Type := Int × Int × Int × Int × Int × Int × Int × Int × Str × Str × Str × Int × Int × Int × Int × Int × Int × Str × Int × Int × Str × Int × Int × Int × Int × Int × Int × Int × Int × Int × Str × Str × Str × Str × Int × Int × Int × Str × (List Str) × (List api_Qid) × ref09_In
abbrev GdT : Type := Int × Int × Int × Int × Int × Int × Int × Str × Str × Str × Int × Int × Int × Int × Int × Int × Str × Int × Int × Str × Int × Int × Int × Int × Int × Int × Int × Int × Int × Str × Str × Str × Str × Int × Int × Int × Str × (List Str) × (List api_Qid) × ref09_In
def gdn (m : api_Msg) (q : ref09_In) : GdT := (m.Kind_, m.Tag_, m.Fid_, m.NewFid_, m.AuthFid_, m.OldTag_, m.Msize_, m.Version_, m.User_, m.Attach_, m.Qid_.Type_, m.Qid_.Vers_, m.Qid_.Path_, m.Iounit_, m.Mode_, m.Perm_, m.Name_, m.Offset_, m.Count_, m.Data_, m.Stat_.Type_, m.Stat_.Dev_, m.Stat_.Qid_.Type_, m.Stat_.Qid_.Vers_, m.Stat_.Qid_.Path_, m.Stat_.Mode_, m.Stat_.Atime_, m.Stat_.Mtime_, m.Stat_.Length_, m.Stat_.Name_, m.Stat_.Uid_, m.Stat_.Gid_, m.Stat_.Muid_, m.Err_, m.Lease_, m.Term_, m.Session_, m.Names_, m.Qids_, q)
def gst (i : Int) (m : api_Msg) (q : ref09_In) : GsT := (i, gdn m q)
theorem ng_done {Y : List Int × Bool} {i : Int} {m : api_Msg} {q : ref09_In} (h : decide (i < (Y.1.length : Int)) = false) : ref09_Get_L1 Y (gst i m q) = some (.done (gdn m q)) := by
 unfold ref09_Get_L1
 exact cond_f h rfl
theorem ng_next {Y : List Int × Bool} {i n : Int} {m m1 : api_Msg} {q q1 : ref09_In} (h : decide (i < (Y.1.length : Int)) = true) (hi : getI Y.1 i = some n) (hr : ref09_read q m n = some (q1, m1)) : ref09_Get_L1 Y (gst i m q) = some (.next (gst (w64 (i + 1)) m1 q1)) := by
 unfold ref09_Get_L1
 exact cond_t h (bind_eq hi (bind_eq hr rfl))
end Go.Proofs.YtolgkhjkdadhiaaGreat
namespace Go.Proofs.YtolgkhjkdadhiaaGreat
open Go.Rt Go.RowKit
theorem Sim.rs {y : Str} {r : wire_reader} {q : ref09_In} (h : Sim y r q) : RS y r := by
 rcases h with ⟨a, ha, rfl, rfl⟩ | ⟨a, S, rfl, rfl, hS⟩
 ·exact ⟨rfl, fun _ => ⟨a, rfl, ha⟩⟩
 ·exact ⟨rfl, fun e => nomatch e⟩
theorem cp_names {k : Lt} (h : k ≠ .w) (m' m : api_Msg) : (cpF k m' m).Names_ = m.Names_ := by cases k <;> first | exact absurd rfl h | rfl
theorem cp_qids {k : Lt} (h : k ≠ .W) (m' m : api_Msg) : (cpF k m' m).Qids_ = m.Qids_ := by cases k <;> first | exact absurd rfl h | rfl
theorem get_loops (y : Str) (hs : y.length ≤ 1000000) (L : List Lt) (hL : L.length ≤ 100) (B : Bool) (l : List Lt) : ∀ (fuel i : Nat) (r : wire_reader) (q : ref09_In) (m m' : api_Msg), L.drop i = l → i + l.length = L.length → l.Nodup → l.length < fuel → Sim y r q → (r.ok_ = true → m = m') → (r.ok_ = true → .w ∈ l → m.Names_ = []) → (r.ok_ = true → .W ∈ l → m.Qids_ = []) →
  ∃ mf r' q' mf', loopF (wire_Get_L1 (layB L)) fuel ((i : Int), r, m) = some (r', mf) ∧ loopF (ref09_Get_L1 (L.map Lt.num, B)) fuel (gst (i : Int) m' q) = some (gdn mf' q') ∧ Sim y r' q' ∧ (r'.ok_ = true → r.ok_ = true ∧ mf = mf') ∧ (r'.ok_ = true → MQ m → MQ mf) := by
 induction l with
 | nil =>
  intro fuel i r q m m' hd hi _ hf hS hm _ _
  obtain ⟨fuel, rfl⟩ : ∃ f, fuel = f + 1 := ⟨fuel - 1, by omega⟩
  simp only [List.length_nil] at hi
  refine ⟨m, r, q, m', loop_done ?_, loop_done (ng_done ?_), hS, fun ho => ⟨ho, hm ho⟩, fun _ h => h⟩
  ·unfold wire_Get_L1
   exact cond_f (by rw [layB_len]; simp; omega) rfl
  ·simp; omega
 | cons k l ih =>
  intro fuel i r q m m' hd hi hn hf hS hm hw hW
  obtain ⟨fuel, rfl⟩ : ∃ f, fuel = f + 1 := ⟨fuel - 1, by omega⟩
  simp only [List.length_cons] at hi hf
  have hlt : i < L.length := by omega
  rw [List.drop_eq_getElem_cons hlt] at hd
  simp only [List.cons.injEq] at hd
  obtain ⟨hk, hd⟩ := hd
  obtain ⟨hn1, hn2⟩ := List.nodup_cons.1 hn
  obtain ⟨mc, rc, ec, _⟩ := fstep k m hS.rs hs
  obtain ⟨r1, m1, q1, m2, a1, b1, s1, e1, f1⟩ := tfield k m m' hs hS (fun hk ho => by rw [← hm ho]; exact hw ho (by rw [hk]; exact List.mem_cons_self ..)) (fun hk ho => by rw [← hm ho]; exact hW ho (by rw [hk]; exact List.mem_cons_self ..))
  obtain ⟨rfl, rfl⟩ := Prod.mk.inj (Option.some.inj (ec.symm.trans a1))
  obtain ⟨mf, r', q', mf', g1, g2, g3, g4, g5⟩ := ih fuel (i + 1) rc q1 (cpF k mc m) m2 hd (by omega) hn2 (by omega) s1 (fun ho => (e1 ho).2 (hm (e1 ho).1)) (fun ho hm' => by
   rw [cp_names (fun e => by subst e; exact hn1 hm')]
   exact hw (e1 ho).1 (List.mem_cons_of_mem _ hm')) (fun ho hm' => by
   rw [cp_qids (fun e => by subst e; exact hn1 hm')]
   exact hW (e1 ho).1 (List.mem_cons_of_mem _ hm'))
  have e6 : w64 ((i : Int) + 1) = ((i + 1 : Nat) : Int) := by rw [w64_eq ⟨by omega, by omega⟩]; rfl
  refine ⟨mf, r', q', mf', loop_next ?_ g1, loop_next ?_ g2, g3, fun ho => ⟨(e1 (g4 ho).1).1, (g4 ho).2⟩, fun ho h => g5 ho (f1 (g4 ho).1 h)⟩
  ·unfold wire_Get_L1
   refine cond_t (by rw [layB_len]; simp; omega) (bind_eq (layB_byte L i hlt) ?_)
   rw [hk]
   refine bind_eq ec ?_
   rw [← e6]
  ·rw [← e6]
   refine ng_next (n := k.num) (by simp; omega) ?_ b1
   rw [getI_lt (by simp; omega)]
   simp [hk]
theorem num_there {y : Str} {a n : Nat} (h1 : 1 ≤ n) (h4 : n ≤ 4) (h : a + n ≤ y.length) (hs : y.length ≤ 1000000) : wire_reader_number ⟨y, (a : Int), true⟩ (n : Int) = some ((leV (win y a n) : Int), ⟨y, ((a + n : Nat) : Int), true⟩) ∧ ref09_number ⟨y.drop a, false⟩ (n : Int) = some (⟨y.drop (a + n), false⟩, (leV (win y a n) : Int)) := by
 have hv := leV_lt (win y a n)
 rw [win_len h] at hv
 have hp : (2 : Nat) ^ (8 * n) ≤ 2 ^ 32 := Nat.pow_le_pow_right (by omega) (by omega)
 rcases snum (n := n) h1 (by omega) hs (.inl ⟨a, by omega, rfl, rfl⟩) with ⟨a', ha', _, e1, e2⟩ | ⟨v, a', e1, _⟩
 ·have hg := get_eq y a n h1 (by omega) (by omega) (by omega)
  rw [if_neg (by omega), if_neg (by omega)] at hg
  have hw : wire_reader_number ⟨y, (a : Int), true⟩ (n : Int) = some ((leV (win y a n) : Int), ⟨y, ((a + n : Nat) : Int), true⟩) := by
   unfold wire_reader_number
   exact cond_f rfl (bind_eq hg (cond_f rfl rfl))
  have := hw.symm.trans e1
  simp only [Option.some.injEq, Prod.mk.injEq, wire_reader.mk.injEq, true_and, and_true] at this
  have haa : a' = a := by omega
  subst haa
  exact ⟨e1, e2⟩
 ·have hg := get_eq y a n h1 (by omega) (by omega) (by omega)
  rw [if_neg (by omega), if_neg (by omega)] at hg
  have hw : wire_reader_number ⟨y, (a : Int), true⟩ (n : Int) = some ((leV (win y a n) : Int), ⟨y, ((a + n : Nat) : Int), true⟩) := by
   unfold wire_reader_number
   exact cond_f rfl (bind_eq hg (cond_f rfl rfl))
  have := hw.symm.trans e1
  simp at this
def isKindB (n : Nat) : Bool := [100, 101, 102, 103, 104, 105, 107, 108, 109, 110, 111, 112, 113, 114, 115, 116, 117, 118, 119, 120, 121, 122, 123, 124, 125, 126, 127, 128, 129, 130, 131].contains n
theorem kinds_all : (List.range 256).all (fun n => isKindB n || (decide (ref09_Fields (n : Int) = some ([], false)) && decide (msg_Name (n : Int) = some []) && decide (wire_layout (n : Int) = some []))) = true := by kernel_rfl
theorem kind_out {n : Nat} (h : n < 256) (hk : isKindB n = false) : ref09_Fields (n : Int) = some ([], false) ∧ msg_Name (n : Int) = some [] ∧ wire_layout (n : Int) = some [] := by
 have := List.all_eq_true.1 kinds_all n (List.mem_range.2 h)
 simp only [hk, Bool.false_or, Bool.and_eq_true, decide_eq_true_eq] at this
 exact ⟨this.1.1, this.1.2, this.2⟩
theorem kind_is {n : Nat} (hk : isKindB n = true) : isKind (n : Int) := by
 unfold isKindB at hk
 simp only [List.contains_iff_mem, List.mem_cons, List.not_mem_nil, or_false] at hk
 unfold isKind
 omega
theorem zero_ok (k t : Int) : (zeroM k t).ok := ⟨zero_small k t, (fun _ h => nomatch h), by
 show InK .i64 0 ∧ InK .i64 0 ∧ InK .i64 0
 have : InK .i64 0 := show (-9223372036854775808 : Int) ≤ 0 ∧ (0 : Int) ≤ 9223372036854775807 from ⟨by omega, by omega⟩
 exact ⟨this, this, this⟩⟩
theorem kind_lay {n : Nat} (h : n < 256) : ∃ (l : List Lt) (b : Bool) (nm : Str), wire_layout (n : Int) = some (layB l) ∧ ref09_Fields (n : Int) = some (l.map Lt.num, b) ∧ msg_Name (n : Int) = some nm ∧ (nm == []) = (!b) ∧ l.Nodup ∧ l.length ≤ 100 := by
 cases hk : isKindB n with
 | false =>
  obtain ⟨h1, h2, h3⟩ := kind_out h hk
  exact ⟨[], false, [], h3, h1, h2, rfl, List.nodup_nil, by simp⟩
 | true =>
  obtain ⟨l, t, e1, e2, e3, e4, _, e6, _⟩ := kinds_ref (zeroM (n : Int) 0) (kind_is hk) (zero_ok _ _)
  obtain ⟨l', d1, d2, _⟩ := lay_any (n : Int)
  obtain rfl : l' = l := layB_inj (Option.some.inj (d1.symm.trans e4))
  exact ⟨l', true, t, e4, e6, e1, by rw [e2]; rfl, d2, e3⟩
end Go.Proofs.YtolgkhjkdadhiaaGreat
namespace Go.Proofs.YtolgkhjkdadhiaaGreat
open Go.Rt Go.RowKit
theorem win_tail {s : Str} {A z : Nat} : win s (A + 4) (z - 4) = (win s A z).drop 4 := by
 simp only [win, List.drop_take, List.drop_drop]
theorem get_both (s : Str) (x : Int) (hs : s.length ≤ 1000000) : ∃ v, wire_Get s x = some v ∧ ref09_Get s x = some v ∧ v.1.small := by
 unfold wire_Get ref09_Get
 by_cases ha : x < 0 ∨ x > s.length
 ·exact ⟨_, bind_eq (get_none s x ha) rfl, cond_t (by simpa using ha) rfl, zero_small 0 0⟩
 obtain ⟨A, rfl⟩ : ∃ A : Nat, x = (A : Int) := ⟨x.toNat, by omega⟩
 have hA : A ≤ s.length := by omega
 have hA2 : (decide ((A : Int) < 0) || decide ((A : Int) > (s.length : Int))) = false := by simp; omega
 have e0 := get_eq s A 4 (by omega) (by omega) hA (by omega)
 have r0 := r02_at s A 4 (by omega) (by omega) hA (by omega)
 rw [show ((4 : Nat) : Int) = 4 from rfl] at e0 r0
 by_cases c1 : s.length - A < 4
 ·rw [if_pos c1] at e0 r0
  exact ⟨_, bind_eq e0 rfl, cond_f hA2 (bind_eq r0 rfl), zero_small 0 0⟩
 rw [if_neg c1] at e0 r0
 by_cases c2 : leV (win s A 4) > 9223372036854775807
 ·rw [if_pos c2] at e0 r0
  exact ⟨_, bind_eq e0 rfl, cond_f hA2 (bind_eq r0 rfl), zero_small 0 0⟩
 rw [if_neg c2] at e0 r0
 generalize hz : leV (win s A 4) = z at e0 r0 c2
 by_cases c3 : z > 8192
 ·exact ⟨_, bind_eq e0 (cond_f rfl (cond_t (by simp; omega) rfl)), cond_f hA2 (bind_eq r0 (cond_f rfl (cond_t (by simp; omega) rfl))), zero_small 0 0⟩
 have h3 : decide ((z : Int) > 8192) = false := by simp; omega
 by_cases c4 : z < 7
 ·exact ⟨_, bind_eq e0 (cond_f rfl (cond_f h3 (cond_t (by simp; omega) rfl))), cond_f hA2 (bind_eq r0 (cond_f rfl (cond_f h3 (cond_t (by simp; omega) rfl)))), zero_small 0 0⟩
 have h4 : decide ((z : Int) < 7) = false := by simp; omega
 have el : w64 ((s.length : Int) - (A : Int)) = ((s.length - A : Nat) : Int) := by rw [w64_eq ⟨by omega, by omega⟩]; omega
 by_cases c5 : z > s.length - A
 ·exact ⟨_, bind_eq e0 (cond_f rfl (cond_f h3 (cond_f h4 (cond_t (by rw [el]; simp; omega) rfl)))), cond_f hA2 (bind_eq r0 (cond_f rfl (cond_f h3 (cond_f h4 (cond_t (by rw [el]; simp; omega) rfl))))), zero_small 0 0⟩
 have h5 : decide ((z : Int) > w64 ((s.length : Int) - (A : Int))) = false := by rw [el]; simp; omega
 have e1 := win_sub s A z (by omega) (by omega)
 have r1 := win_sub s (A + 4) (z - 4) (by omega) (by omega)
 have hA4 : w64 ((A : Int) + 4) = ((A + 4 : Nat) : Int) := by rw [w64_eq ⟨by omega, by omega⟩]; rfl
 have hAz : w64 (((A + 4 : Nat) : Int) + ((z - 4 : Nat) : Int)) = w64 ((A : Int) + (z : Int)) := by congr 1; omega
 rw [hAz, win_tail] at r1
 rw [← hA4] at r1
 have hy : (win s A z).length = z := win_len (by omega)
 generalize hy' : win s A z = y at e1 r1 hy
 obtain ⟨n1, m1⟩ := num_there (y := y) (a := 4) (n := 1) (by omega) (by omega) (by omega) (by omega)
 obtain ⟨n2, m2⟩ := num_there (y := y) (a := 4 + 1) (n := 2) (by omega) (by omega) (by omega) (by omega)
 have hk := leV_lt (win y 4 1)
 rw [win_len (by omega)] at hk
 generalize leV (win y 4 1) = kd at n1 m1 hk
 generalize leV (win y (4 + 1) 2) = tg at n2 m2
 obtain ⟨L, b, nm, k1, k2, k3, k4, k5, k6⟩ := kind_lay (n := kd) (by omega)
 have hB : BIG = 18446744073709551616 := rfl
 obtain ⟨mf, r', q', mf', g1, g2, g3, g4, g5⟩ := get_loops y (by omega) L k6 b L BIG 0 ⟨y, ((4 + 1 + 2 : Nat) : Int), true⟩ ⟨y.drop (4 + 1 + 2), false⟩ (zeroM (kd : Int) (tg : Int)) (zeroM (kd : Int) (tg : Int)) rfl (by omega) k5 (by omega) (.inl ⟨4 + 1 + 2, by omega, rfl, rfl⟩) (fun _ => rfl) (fun _ _ => rfl) (fun _ _ => rfl)
 obtain ⟨mg, rg, gg, _, kk, _, _, sm⟩ := gloop y (by omega) L k6 L BIG 0 ⟨y, ((4 + 1 + 2 : Nat) : Int), true⟩ (zeroM (kd : Int) (tg : Int)) rfl (by omega) k5 (by omega) ⟨rfl, fun _ => ⟨4 + 1 + 2, rfl, by omega⟩⟩
 obtain ⟨rfl, rfl⟩ := Prod.mk.inj (Option.some.inj (gg.symm.trans g1))
 have kn : msg_Name mg.Kind_ = some nm := by rw [kk]; exact k3
 have wire : ∀ {r}, (bif (((nm == []) || (!rg.ok_)) || (rg.at_ != (z : Int))) then some ((api_Msg.mk 0 0 0 0 0 0 0 [] [] [] [] [] (api_Qid.mk 0 0 0) 0 0 0 [] 0 0 [] (api_Dir.mk 0 0 (api_Qid.mk 0 0 0) 0 0 0 0 [] [] [] []) 0 0 0 []), (0 : Int), (2 : Int)) else Option.bind (msg_Check mg) fun (y11 : Int) =>
   (bif (y11 != 0) then some (((api_Msg.mk 0 0 0 0 0 0 0 [] [] [] [] [] (api_Qid.mk 0 0 0) 0 0 0 [] 0 0 [] (api_Dir.mk 0 0 (api_Qid.mk 0 0 0) 0 0 0 0 [] [] [] []) 0 0 0 []), 0, y11)) else some ((mg, (w64 ((A : Int) + (z : Int))), 0)))) = r → wire_Get s (A : Int) = r := fun {r} h => by
  unfold wire_Get
  exact bind_eq e0 (cond_f rfl (cond_f h3 (cond_f h4 (cond_f h5 (bind_eq e1 (bind_eq n1 (bind_eq n2 (bind_eq k1 (bind_eq g1 (bind_eq kn h))))))))))
 have refr : ∀ {r}, (bif (((!b) || q'.Bad_) || (!(q'.S_ == []))) then some ((api_Msg.mk 0 0 0 0 0 0 0 [] [] [] [] [] (api_Qid.mk 0 0 0) 0 0 0 [] 0 0 [] (api_Dir.mk 0 0 (api_Qid.mk 0 0 0) 0 0 0 0 [] [] [] []) 0 0 0 []), (0 : Int), (2 : Int)) else Option.bind (ref08_Check mf') fun (y11 : Int) =>
   (bif (y11 != 0) then some (((api_Msg.mk 0 0 0 0 0 0 0 [] [] [] [] [] (api_Qid.mk 0 0 0) 0 0 0 [] 0 0 [] (api_Dir.mk 0 0 (api_Qid.mk 0 0 0) 0 0 0 0 [] [] [] []) 0 0 0 []), 0, y11)) else some ((mf', (w64 ((A : Int) + (z : Int))), 0)))) = r → ref09_Get s (A : Int) = r := fun {r} h => by
  unfold ref09_Get
  exact cond_f hA2 (bind_eq r0 (cond_f rfl (cond_f h3 (cond_f h4 (cond_f h5 (bind_eq r1 (bind_eq m1 (bind_eq m2 (bind_eq k2 (bind_eq g2 h))))))))))
 suffices hgoal : ∃ v, wire_Get s (A : Int) = some v ∧ ref09_Get s (A : Int) = some v ∧ v.1.small by
  unfold wire_Get ref09_Get at hgoal
  exact hgoal
 rcases g3 with ⟨p, hp, rfl, rfl⟩ | ⟨p, S, rfl, rfl, _⟩
 ·obtain ⟨_, rfl⟩ := g4 rfl
  have hq : (!(y.drop p == [])) = ((p : Int) != (z : Int)) := by
   rw [Bool.eq_iff_iff]
   simp only [Bool.not_eq_true', beq_eq_false_iff_ne, ne_eq, bne_iff_ne, List.drop_eq_nil_iff]
   omega
  cases c6 : ((!b) || ((p : Int) != (z : Int))) with
  | true => exact ⟨_, wire (cond_t (by rw [k4]; simpa using c6) rfl), refr (cond_t (by rw [hq]; simpa using c6) rfl), zero_small 0 0⟩
  | false =>
   have hsm : mg.small := sm rfl (zero_small _ _)
   have hmq := g5 rfl ⟨(zero_ok (kd : Int) (tg : Int)).qids, (zero_ok (kd : Int) (tg : Int)).qid⟩
   have hok : mg.ok := ⟨hsm, hmq.1, hmq.2⟩
   obtain ⟨c, e7⟩ := check_some mg hsm
   have e8 : ref08_Check mg = some c := (refcheck09 mg hok).trans e7
   have cw : (((nm == []) || (!true)) || ((p : Int) != (z : Int))) = false := by rw [k4]; simpa using c6
   have cr : (((!b) || false) || (!(y.drop p == []))) = false := by rw [hq]; simpa using c6
   by_cases hc : c = 0
   ·subst hc
    exact ⟨_, wire (cond_f cw (bind_eq e7 (cond_f rfl rfl))), refr (cond_f cr (bind_eq e8 (cond_f rfl rfl))), hsm⟩
   ·have hc' : (c != 0) = true := by simpa using hc
    exact ⟨_, wire (cond_f cw (bind_eq e7 (cond_t hc' rfl))), refr (cond_f cr (bind_eq e8 (cond_t hc' rfl))), zero_small 0 0⟩
 ·exact ⟨_, wire (cond_t (by simp) rfl), refr (cond_t (by simp) rfl), zero_small 0 0⟩
end Go.Proofs.YtolgkhjkdadhiaaGreat
namespace Go.Proofs.YtolgkhjkdadhiaaGreat
open Go.Rt Go.RowKit
theorem body_both (o : Int) (x : Str) (acc : List api_Msg) (hs : x.length ≤ 1000000) (ha : acc.length ≤ 1000000) : ref09_Split_L1 o (x, acc) = wire_Split_L1 o (x, acc) := by
 by_cases h4 : x.length < 4
 ·have hd : decide ((x.length : Int) ≥ 4) = false := by simp; omega
  have a1 : ref09_Split_L1 o (x, acc) = some (.done (.fall (x, acc))) := by unfold ref09_Split_L1; exact cond_f hd rfl
  have a2 : wire_Split_L1 o (x, acc) = some (.done (.fall (x, acc))) := by unfold wire_Split_L1; exact cond_f hd rfl
  rw [a1, a2]
 ·have hd : decide ((x.length : Int) ≥ 4) = true := by simp; omega
  have e1 := oct0 x (by omega) hs
  have hlt := four_lt x
  have e2 := r02_at x 0 4 (by omega) (by omega) (by omega) (by omega)
  rw [if_neg (by omega), if_neg (by omega), Nat.zero_add] at e2
  obtain ⟨⟨m, n, e⟩, g1, g2, _⟩ := get_both x 0 hs
  unfold ref09_Split_L1 wire_Split_L1
  refine (cond_t hd (bind_eq e2 rfl)).trans (cond_t hd (bind_eq e1 ?_)).symm
  refine Eq.symm ?_
  generalize leV (win x 0 4) = z at *
  show (bif decide ((z : Int) > o) || decide ((z : Int) < 7) then _ else _) = (bif ((false || decide ((z : Int) > o)) || decide ((z : Int) < 7)) then _ else _)
  rw [Bool.false_or]
  cases h7 : decide ((z : Int) > o) || decide ((z : Int) < 7) with
  | true => rfl
  | false =>
   show (bif decide ((z : Int) > (x.length : Int)) then _ else _) = (bif decide ((x.length : Int) < (z : Int)) then _ else _)
   cases hz : decide ((x.length : Int) < (z : Int)) with
   | true => rfl
   | false =>
    show Option.bind (ref09_Get x 0) _ = Option.bind (wire_Get x 0) _
    rw [g1, g2]
    show (bif e != 0 then _ else _) = (bif e != 0 then _ else _)
    cases e != 0 with
    | true => rfl
    | false =>
     show Option.bind (room 424 acc [m]) _ = Option.bind (subI x n (x.length : Int)) _
     rw [room_eq (by simp; omega) (by simp; omega)]
     cases subI x n (x.length : Int) <;> rfl
theorem split_loops (o : Int) (k : Nat) : ∀ (fuel : Nat) (x : Str) (acc : List api_Msg), x.length < k → x.length ≤ 1000000 → acc.length + x.length ≤ 1000000 → loopF (ref09_Split_L1 o) fuel (x, acc) = loopF (wire_Split_L1 o) fuel (x, acc) := by
 induction k with
 | zero => intro fuel x acc h; omega
 | succ k ih =>
  intro fuel x acc h hs ha
  cases fuel with
  | zero => rfl
  | succ fuel =>
   have hb := split_body o x acc hs (by omega)
   have hr := (body_both o x acc hs (by omega)).trans hb
   cases h1 : one o x with
   | stop => rw [h1] at hb hr; rw [loop_done hb, loop_done hr]
   | bad e => rw [h1] at hb hr; rw [loop_done hb, loop_done hr]
   | got m z =>
    rw [h1] at hb hr
    obtain ⟨a, b, _⟩ := one_got hs h1
    rw [loop_next hb rfl, loop_next hr rfl]
    exact ih fuel _ _ (by simp; omega) (by simp; omega) (by simp; omega)
theorem split_both (x : Str) (n : Int) (hs : x.length ≤ 1000000) : ref09_Split x n = wire_Split x n := by
 unfold ref09_Split wire_Split
 cases hc : ((n == 0) || (decide (n > 8192))) with
 | true =>
  show Option.bind (loopF (ref09_Split_L1 8192) BIG (x, [])) _ = Option.bind (loopF (wire_Split_L1 8192) BIG (x, [])) _
  rw [split_loops 8192 (x.length + 1) BIG x [] (by omega) hs (by simpa using hs)]
 | false =>
  show Option.bind (loopF (ref09_Split_L1 n) BIG (x, [])) _ = Option.bind (loopF (wire_Split_L1 n) BIG (x, [])) _
  rw [split_loops n (x.length + 1) BIG x [] (by omega) hs (by simpa using hs)]
end Go.Proofs.YtolgkhjkdadhiaaGreat
namespace Go.Proofs.YtolgkhjkdadhiaaGreat
open Go.Rt Go.RowKit
theorem put_both (m : api_Msg) (h : m.ok) : ∃ y, wire_Put m = some y ∧ ref09_Put m = some y := by
 have hB : BIG = 18446744073709551616 := rfl
 obtain ⟨c, hc⟩ := check_some m h.small
 have hr : ref08_Check m = some c := (refcheck09 m h).trans hc
 by_cases hc0 : c = 0
 ·subst hc0
  obtain ⟨l, nm, e1, hn, e2, hl, hm, hw, ⟨u1, k1⟩, ⟨u2, k2⟩, hk, hg⟩ := check_zero m h hc
  obtain ⟨l', nm', e1', hn', hl', e2', _, eF, _, _⟩ := kinds_ref m (named_kind e1 (by simpa using hn)) h
  obtain rfl : l' = l := layB_inj (Option.some.inj (e2'.symm.trans e2))
  obtain ⟨u3, k3⟩ := encA_ex hw
  have he : app2 (encN m.Kind_ 1) (app2 (encN m.Tag_ 2) (encA l' m)) = some (u1 ++ (u2 ++ u3)) := by rw [k1, k2, k3]; rfl
  have a1 := encN_len k1
  have a2 := encN_len k2
  have a3 := encs_len 17179869184 (fun k t h => encF_len k m h) k3
  have a4 : 17179869184 * l'.length ≤ 17179869184 * 100 := Nat.mul_le_mul_left _ hl
  have ht : (u1 ++ (u2 ++ u3)).length ≤ 1152921504606846976 := by
   simp only [List.length_append]
   omega
  have hp := put_fwd m l' _ hc e2 hl he ht
  refine ⟨_, hp, ?_⟩
  have v1 := vnum (w := []) (k := 1) (by omega) (by omega) k1 (by omega) (by simp; omega)
  have v2 := vnum (w := [] ++ u1) (k := 2) (by omega) (by omega) k2 (by omega) (by simp; omega)
  have v3 := vput_loop m l' hl true l'.length BIG 0 ([] ++ u1 ++ u2) u3 (by omega) (by omega) k3 (fun k hk => (hw k hk).2) (by simp; omega)
  simp only [List.nil_append, List.append_assoc] at v1 v2 v3
  unfold ref09_Put
  generalize hT : u1 ++ (u2 ++ u3) = T at v3 ht ⊢
  refine bind_eq hr (cond_f rfl (bind_eq eF (bind_eq v1 (bind_eq v2 (bind_eq v3 (cond_f rfl ?_))))))
  have el : w64 ((T.length : Int) + 4) = ((T.length + 4 : Nat) : Int) := by rw [w64_eq ⟨by omega, by omega⟩]; omega
  simp only [el]
  by_cases c : T.length + 4 ≤ 8192
  ·rw [if_pos c]
   exact cond_f (by simp; omega) (bind_eq (v02 (T.length + 4) 4 (by omega) (by omega) (by omega) (by omega)) (bind_eq (cat_eq (by rw [leB_len]; omega)) rfl))
  ·rw [if_neg c]
   exact cond_t (by simp; omega) rfl
 ·refine ⟨([], c), ?_, ?_⟩
  ·unfold wire_Put
   exact bind_eq hc (cond_t (by simpa using hc0) rfl)
  ·unfold ref09_Put
   exact bind_eq hr (cond_t (by simpa using hc0) rfl)
end Go.Proofs.YtolgkhjkdadhiaaGreat
namespace Go.Proofs.YtolgkhjkdadhiaaGreat
open Go.Rt Go.RowKit
def scan {α β : Type} (g : Nat → α → Option β) : Nat → List α → Option β
 | _, [] => none
 | i, x :: l => match g i x with
  | some r => some r
  | none => scan g (i + 1) l
def outO {β : Type} : Option β → Out Unit β
 | some r => .ret r
 | none => .fall ()
theorem lt_t {i n : Nat} (h : i < n) : decide ((i : Int) < (n : Int)) = true := by simpa using h
theorem lt_f (n : Nat) : decide ((n : Int) < (n : Int)) = false := by simp
theorem w_succ {i : Nat} (h : i < 9223372036854775807) : w64 ((i : Int) + 1) = ((i + 1 : Nat) : Int) := by
 rw [w64_eq ⟨by omega, by omega⟩]; rfl
theorem w_pred {i : Nat} (h0 : 0 < i) (h : i < 9223372036854775807) : w64 ((i : Int) - 1) = ((i - 1 : Nat) : Int) := by
 rw [w64_eq ⟨by omega, by omega⟩]; omega
def stepO {β : Type} (o : Option β) (i : Nat) : Step Int (Out Unit β) := match o with
 | some r => .done (.ret r)
 | none => .next ((i + 1 : Nat) : Int)
theorem loop_scan {α β : Type} {body : Int → Option (Step Int (Out Unit β))} (xs : List α) (g : Nat → α → Option β) (hn : xs.length < BIG)
  (hb : ∀ i (h : i < xs.length), body (i : Int) = some (stepO (g i xs[i]) i))
  (he : body (xs.length : Int) = some (.done (.fall ()))) : loopF body BIG 0 = some (outO (scan g 0 xs)) := by
 refine loopF_up (J := fun i s b => s = (i : Int) ∧ b = outO (scan g i (xs.drop i))) xs.length hn (fun s b hJ => ?_) (fun i s b hi hJ => ?_) (by simp)
 ·obtain ⟨rfl, rfl⟩ := hJ
  rw [he]; simp [scan, outO]
 ·obtain ⟨rfl, rfl⟩ := hJ
  rw [hb i hi, List.drop_eq_getElem_cons hi]
  simp only [scan]
  cases hg : g i xs[i] with
  | some r => exact .inl rfl
  | none => exact .inr ⟨_, rfl, rfl, rfl⟩
theorem scan_ret {β : Type} {L : Option (Out Unit β)} {k : Out Unit β → Option β} {o : Option β} {x : β} (h : L = some (outO o)) (h1 : ∀ r, k (.ret r) = some r) (h2 : k (.fall ()) = some x) : Option.bind L k = some (o.getD x) := by
 subst h
 cases o with
 | some r => exact h1 r
 | none => exact h2
theorem scan_find {α β : Type} (p : α → Bool) (f : α → β) : ∀ (k : Nat) (l : List α), scan (fun _ x => if p x then some (f x) else none) k l = (l.find? p).map f
 | _, [] => rfl
 | k, x :: l => by
  simp only [scan, List.find?_cons]
  cases p x with
  | true => rfl
  | false => exact scan_find p f (k + 1) l
theorem scan_idx {α : Type} (p : α → Bool) : ∀ (k : Nat) (l : List α), scan (fun i x => if p x then some ((i : Nat) : Int) else none) k l = (l.findIdx? p).map fun i => ((k + i : Nat) : Int)
 | _, [] => rfl
 | k, x :: l => by
  simp only [scan, List.findIdx?_cons]
  cases p x with
  | true => rfl
  | false =>
   simp only [Bool.false_eq_true, if_false]
   rw [scan_idx p (k + 1) l]
   cases l.findIdx? p with
   | none => rfl
   | some i => simp only [Option.map_some]; congr 2; omega
theorem scan_none {α β : Type} {g : Nat → α → Option β} : ∀ {k : Nat} {l : List α}, scan g k l = none ↔ ∀ i x, l[i]? = some x → g (k + i) x = none
 | _, [] => ⟨fun _ i x h => by simp at h, fun _ => rfl⟩
 | k, x :: l => by
  simp only [scan]
  constructor
  ·intro h
   split at h
   ·cases h
   ·rename_i h0
    intro i y hy
    cases i with
    | zero => simp at hy; subst hy; exact h0
    | succ i => have := (scan_none (k := k + 1)).1 h i y (by simpa using hy); rwa [show k + 1 + i = k + (i + 1) by omega] at this
  ·intro h
   have h0 := h 0 x rfl
   rw [Nat.add_zero] at h0
   rw [h0]
   exact scan_none.2 fun i y hy => by rw [show k + 1 + i = k + (i + 1) by omega]; exact h (i + 1) y (by simpa using hy)
def foldN {α σ : Type} (f : σ → Nat → α → σ) : σ → Nat → List α → σ
 | s, _, [] => s
 | s, i, x :: l => foldN f (f s i x) (i + 1) l
theorem loop_foldN {α σ τ β : Type} {body : τ → Option (Step τ β)} (xs : List α) (f : σ → Nat → α → σ) (mk : Nat → σ → τ) (Inv : Nat → σ → Prop) (fin : σ → β) (s0 : σ) (hn : xs.length < BIG) (h0 : Inv 0 s0)
  (hb : ∀ i s (h : i < xs.length), Inv i s → body (mk i s) = some (.next (mk (i + 1) (f s i xs[i]))) ∧ Inv (i + 1) (f s i xs[i]))
  (he : ∀ s, Inv xs.length s → body (mk xs.length s) = some (.done (fin s))) : loopF body BIG (mk 0 s0) = some (fin (foldN f s0 0 xs)) := by
 refine loopF_up (J := fun i t b => ∃ s, Inv i s ∧ t = mk i s ∧ b = fin (foldN f s i (xs.drop i))) xs.length hn (fun t b hJ => ?_) (fun i t b hi hJ => ?_) ⟨s0, h0, rfl, by simp⟩
 ·obtain ⟨s, hI, rfl, rfl⟩ := hJ
  rw [he s hI]; simp [foldN]
 ·obtain ⟨s, hI, rfl, rfl⟩ := hJ
  obtain ⟨h1, h2⟩ := hb i s hi hI
  rw [List.drop_eq_getElem_cons hi]
  exact .inr ⟨_, h1, _, h2, rfl, rfl⟩
def at_ {α : Type} (p : α → Bool) (l : List α) : Int := match l.findIdx? p with
 | some i => (i : Int)
 | none => -1
theorem at_getD {α : Type} (p : α → Bool) (l : List α) : (scan (fun i x => if p x then some ((i : Nat) : Int) else none) 0 l).getD (-1) = at_ p l := by
 rw [scan_idx]; unfold at_; cases l.findIdx? p <;> simp
theorem at_find {α : Type} (p : α → Bool) (l : List α) : (l.find? p = none ∧ at_ p l = -1) ∨ ∃ (i : Nat) (x : α), l.find? p = some x ∧ at_ p l = (i : Int) ∧ l[i]? = some x ∧ p x = true ∧ ∀ j y, j < i → l[j]? = some y → p y = false := by
 unfold at_
 cases h : l.findIdx? p with
 | none =>
  refine .inl ⟨?_, rfl⟩
  rw [List.find?_eq_none]
  intro x hx
  rw [List.findIdx?_eq_none_iff] at h
  simpa using h x hx
 | some i =>
  obtain ⟨hlt, hp, hall⟩ := List.findIdx?_eq_some_iff_getElem.1 h
  refine .inr ⟨i, l[i], ?_, rfl, List.getElem?_eq_getElem hlt, hp, fun j y hj hy => ?_⟩
  ·rw [List.find?_eq_some_iff_getElem]
   exact ⟨hp, i, hlt, rfl, fun j hj => by simpa using hall j hj⟩
  ·have := hall j hj
   rw [List.getElem?_eq_getElem (by omega)] at hy
   obtain rfl := Option.some.inj hy
   simpa using this
theorem at_neg {α : Type} (p : α → Bool) (l : List α) : decide (at_ p l < 0) = (l.find? p).isNone := by
 rcases at_find p l with ⟨h1, h2⟩ | ⟨i, x, h1, h2, _⟩
 ·rw [h1, h2]; rfl
 ·rw [h1, h2]; simp
theorem at_get {α : Type} (p : α → Bool) (l : List α) (h : (l.find? p).isNone = false) : getI l (at_ p l) = l.find? p := by
 rcases at_find p l with ⟨h1, h2⟩ | ⟨i, x, h1, h2, h3, _⟩
 ·rw [h1] at h; cases h
 ·rw [h1, h2, getI_nat, h3]
theorem nilB_same {α R : Type} {xs : List α} {k : Bool → Option R} {r : Option R} (h0 : xs = [] → k true = r) (h1 : k false = r) : nilB xs k = r := by
 cases xs with
 | nil => simp only [nilB, h0 rfl, h1]; exact both_self r
 | cons x l => exact h1
theorem clone_any {α : Type} {n : Nat} {xs : List α} (h : xs.length * n ≤ 140737488355328) (h63 : xs.length ≤ 9223372036854775807) : (nilB xs fun c => bif c then some [] else Option.bind (room n ([] : List α) xs) fun y => some y) = some xs := by
 refine nilB_same (fun e => by subst e; rfl) ?_
 rw [cond_false, room_eq (by simpa using h63) (by simpa using h)]
 rfl
end Go.Proofs.YtolgkhjkdadhiaaGreat
namespace Go.Proofs.YtolgkhjkdadhiaaGreat
open Go.Rt Go.RowKit
def Sz (m : api_Msg) : Prop := m.Names_.length ≤ 1000000 ∧ m.Qids_.length ≤ 1000000
theorem clone_msg {m : api_Msg} (h : Sz m) : rpc_clone m = some m := by
 have h1 : slices_Clone_stringstring m.Names_ = some m.Names_ := clone_any (n := 16) (by have := h.1; omega) (by have := h.1; omega)
 have h2 : slices_Clone_apiQidapiQid m.Qids_ = some m.Qids_ := clone_any (n := 24) (by have := h.2; omega) (by have := h.2; omega)
 unfold rpc_clone
 exact bind_eq h1 (bind_eq h2 rfl)
theorem fold_map {α β : Type} (f : α → β) : ∀ (l : List α) (s : List β) (k : Nat), foldN (fun s _ x => s ++ [f x]) s k l = s ++ l.map f
 | [], s, _ => by simp [foldN]
 | x :: l, s, k => by simp only [foldN]; rw [fold_map f l]; simp
theorem loop_app {α β : Type} {body : Int × List β → Option (Step (Int × List β) (List β))} (xs : List α) (f : α → β) (hn : xs.length ≤ 1000000)
  (hb : ∀ i (s : List β) (h : i < xs.length), s.length = i → body ((i : Int), s) = some (.next (((i + 1 : Nat) : Int), s ++ [f xs[i]])))
  (he : ∀ s, body ((xs.length : Int), s) = some (.done s)) : loopF body BIG (0, []) = some (xs.map f) := by
 have hB : BIG = 18446744073709551616 := rfl
 have := loop_foldN (body := body) xs (fun s _ x => s ++ [f x]) (fun i s => ((i : Int), s)) (fun i s => s.length = i) (fun s => s) [] (by omega) rfl
  (fun i s h hi => ⟨hb i s h hi, by simp [hi]⟩) (fun s _ => he s)
 rw [fold_map] at this
 exact this
structure SzC (c : api_Client) : Prop where
 calls : c.Calls_.length ≤ 1000
 fids : c.Fids_.length ≤ 1000
 each : ∀ x ∈ c.Calls_, Sz x.Req_
theorem own_eq {c : api_Client} (h : SzC c) : rpc_own c = some c := by
 unfold rpc_own
 have h1 := h.calls
 have h2 : slices_Clone_intint c.Fids_ = some c.Fids_ := clone_any (n := 8) (by have := h.fids; omega) (by have := h.fids; omega)
 refine bind_eq (makeI_eq (by omega) (by omega) (by omega)) (bind_eq (a := c.Calls_) ?_ (bind_eq h2 rfl))
 have := loop_app (body := rpc_own_L1 c) c.Calls_ id (by omega) (fun i s hi hs => ?_) (fun s => ?_)
 ·rwa [List.map_id] at this
 ·unfold rpc_own_L1
  refine cond_t (by simp; omega) (bind_eq (getI_lt hi) (bind_eq (clone_msg (h.each _ (List.getElem_mem hi))) (bind_eq (room_eq (by simp; omega) (by simp; omega)) ?_)))
  rw [w_succ (by omega)]; rfl
 ·unfold rpc_own_L1
  exact cond_f (by simp) rfl
theorem indexFunc_eq {l : List api_Call} {f : api_Call → Option Bool} (p : api_Call → Bool) (hf : ∀ x, f x = some (p x)) (hl : l.length ≤ 1000000) : slices_IndexFunc_apiCallapiCall l f = some (at_ p l) := by
 have hB : BIG = 18446744073709551616 := rfl
 unfold slices_IndexFunc_apiCallapiCall
 rw [← at_getD]
 refine scan_ret (loop_scan l _ (by omega) (fun i hi => ?_) ?_) (fun r => rfl) rfl
 ·unfold slices_IndexFunc_apiCallapiCall_L1
  refine cond_t (lt_t hi) (bind_eq (getI_lt hi) (bind_eq (hf _) ?_))
  cases p l[i] with
  | true => rfl
  | false => rw [cond_false, w_succ (by omega)]; rfl
 ·unfold slices_IndexFunc_apiCallapiCall_L1
  exact cond_f (lt_f _) rfl
def hasT (t : Int) (x : api_Call) : Bool := x.Req_.Tag_ == t
def idxT (l : List api_Call) (t : Int) : Int := at_ (hasT t) l
def isFl (t : Int) (x : api_Call) : Bool := x.Req_.Kind_ == 108 && x.Req_.OldTag_ == t
def flu (l : List api_Call) (t : Int) : Int := ((l.find? (isFl t)).map fun x => x.Req_.Tag_).getD 65535
theorem index_eq {l : List api_Call} (t : Int) (hl : l.length ≤ 1000000) : rpc_index l t = some (idxT l t) := by
 unfold rpc_index
 exact bind_eq (indexFunc_eq (hasT t) (fun x => rfl) hl) rfl
theorem flusher_eq {l : List api_Call} (t : Int) (hl : l.length ≤ 1000000) : rpc_flusher l t = some (flu l t) := by
 unfold rpc_flusher flu
 refine bind_eq (indexFunc_eq (isFl t) (fun x => rfl) hl) ?_
 have h := at_neg (isFl t) l
 cases hf : l.find? (isFl t) with
 | none => rw [hf] at h; exact cond_t h rfl
 | some x =>
  rw [hf] at h
  have hg := at_get (isFl t) l (by rw [hf]; rfl)
  rw [hf] at hg
  exact cond_f h (bind_eq hg rfl)
theorem hasVersion_eq {l : List api_Call} (hl : l.length ≤ 1000000) : rpc_hasVersion l = some (l.any fun x => x.Req_.Kind_ == 100) := by
 unfold rpc_hasVersion slices_ContainsFunc_apiCallapiCall
 refine bind_eq (a := l.any fun x => x.Req_.Kind_ == 100) (bind_eq (indexFunc_eq (fun x => x.Req_.Kind_ == 100) (fun x => rfl) hl) ?_) rfl
 rcases at_find (fun x : api_Call => x.Req_.Kind_ == 100) l with ⟨h1, h2⟩ | ⟨i, x, h1, h2, h3, h4, _⟩
 ·rw [h2]
  have : (l.any fun x => x.Req_.Kind_ == 100) = false := by
   rw [List.any_eq_false]
   exact List.find?_eq_none.1 h1
  rw [this]; rfl
 ·rw [h2]
  have : (l.any fun x => x.Req_.Kind_ == 100) = true := List.any_eq_true.2 ⟨x, List.mem_of_getElem? h3, h4⟩
  rw [this]
  simp
theorem refindex_eq {l : List api_Call} (t : Int) (hl : l.length ≤ 1000000) : ref38_index l t = some (idxT l t) := by
 have hB : BIG = 18446744073709551616 := rfl
 unfold ref38_index idxT
 rw [← at_getD]
 refine scan_ret (loop_scan l _ (by omega) (fun i hi => ?_) ?_) (fun r => rfl) rfl
 ·unfold ref38_index_L1
  refine cond_t (lt_t hi) (bind_eq (getI_lt hi) ?_)
  show (bif hasT t l[i] then _ else _) = _
  cases hasT t l[i] with
  | true => rfl
  | false => rw [cond_false, w_succ (by omega)]; rfl
 ·unfold ref38_index_L1
  exact cond_f (lt_f _) rfl
theorem refflush_eq {l : List api_Call} (t : Int) (hl : l.length ≤ 1000000) : ref38_flush l t = some (flu l t) := by
 have hB : BIG = 18446744073709551616 := rfl
 unfold ref38_flush flu
 rw [← scan_find _ _ 0]
 refine scan_ret (loop_scan l _ (by omega) (fun i hi => ?_) ?_) (fun r => rfl) rfl
 ·unfold ref38_flush_L1
  refine cond_t (lt_t hi) (bind_eq (getI_lt hi) (bind_eq (a := isFl t l[i]) ?_ ?_))
  ·unfold isFl
   cases l[i].Req_.Kind_ == 108 with
   | true => exact cond_t rfl (bind_eq (getI_lt hi) (by simp))
   | false => rfl
  ·cases isFl t l[i] with
   | true => exact cond_t rfl (bind_eq (getI_lt hi) rfl)
   | false => rw [cond_false, w_succ (by omega)]; rfl
 ·unfold ref38_flush_L1
  exact cond_f (lt_f _) rfl
def reqB (k : Int) : Bool := (k.tmod 2 == 0) && match msg_Name k with
 | some t => !(t == [])
 | none => false
theorem request_eq (k : Int) : msg_Request k = some (reqB k) := by
 obtain ⟨t, ht⟩ := Option.get_some (name_some k)
 unfold msg_Request reqB
 rw [ht]
 cases h : k.tmod 2 == 0 with
 | false => rfl
 | true => exact bind_eq (a := !(t == [])) rfl (by simp)
theorem refname_eq (k : Int) : ref08_Name k = msg_Name k := by
 by_cases h : isKind k
 ·exact refname_in k h
 ·rw [refname_out k h, name_out k h]
theorem refrequest_eq (k : Int) : ref08_Request k = some (reqB k) := by
 obtain ⟨t, ht⟩ := Option.get_some (name_some k)
 unfold ref08_Request reqB
 rw [refname_eq, ht]
 refine bind_eq rfl ?_
 rw [Bool.and_comm]
theorem answers_eq (x m : api_Msg) : ∃ b, msg_Answers x m = some b ∧ ref08_Answers x m = some b := by
 have h : ref08_Answers x m = msg_Answers x m := by
  unfold ref08_Answers msg_Answers ref08_Reply msg_Reply
  rw [refrequest_eq, request_eq]
 have h2 : (msg_Answers x m).isSome = true := by
  unfold msg_Answers msg_Reply
  rw [request_eq]
  refine some_bind rfl fun a _ => some_ite (fun _ => rfl) fun _ => some_ite (fun _ => rfl) fun _ => ?_
  refine some_bind ?_ fun b _ => some_ite (fun _ => rfl) fun _ => some_ite (fun _ => rfl) fun _ => some_ite (fun _ => rfl) fun _ => some_ite (fun _ => rfl) fun _ => rfl
  exact some_bind rfl fun a _ => some_ite (fun _ => rfl) fun _ => rfl
 obtain ⟨b, hb⟩ := Option.get_some h2
 exact ⟨b, hb, h.trans hb⟩
def failM (x : api_Msg) (e : Int) : api_Msg := api_Msg.mk 107 x.Tag_ 0 0 0 0 0 [] [] [] [] [] (api_Qid.mk 0 0 0) 0 0 0 [] 0 0 [] (api_Dir.mk 0 0 (api_Qid.mk 0 0 0) 0 0 0 0 [] [] [] []) e 0 0 []
theorem fail_eq (x : api_Msg) (e : Int) : msg_Fail x e = some (failM x e) := rfl
theorem reffail_eq (x : api_Msg) (e : Int) : ref08_Fail x e = some (failM x e) := rfl
end Go.Proofs.YtolgkhjkdadhiaaGreat
