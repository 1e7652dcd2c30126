import Derived.Test.YtboplmpnjepdnaaGreatQx1
import Derived.Test.YtboplmpnjepdnaaGreatSo
import Derived.Test.YtboplmpnjepdnaaGreatTe
/-
  Plain laws: errors; the fields of messages, read from bytes. No program in sight.
-/
namespace Go.Proofs.YtboplmpnjepdnaaGreat
open Go.Rt Go.RowKit

/-! ### Errors -/
def faultT (n : Int) : Str := (fault_Text n).getD []
theorem some_cond {α : Type} {c : Bool} {a : α} {x : Option α} (h : x.isSome = true) : (bif c then some a else x).isSome = true := by
  cases c with
  | true => rfl
  | false => exact h
theorem fault_low_some (n : Int) : (fault_low n).isSome = true := by
  unfold fault_low
  repeat (first | rfl | refine some_cond ?_)
theorem fault_high_some (n : Int) : (fault_high n).isSome = true := by
  unfold fault_high
  repeat (first | rfl | refine some_cond ?_)
theorem fault_text (n : Int) : fault_Text n = some (faultT n) := by
  have h : (fault_Text n).isSome = true := by
    unfold fault_Text
    obtain ⟨a, ha⟩ := Option.isSome_iff_exists.1 (fault_low_some n)
    obtain ⟨b, hb⟩ := Option.isSome_iff_exists.1 (fault_high_some n)
    rw [ha, hb]
    cases (decide (n > 0) && decide (n ≤ 24)) <;> rfl
  obtain ⟨a, ha⟩ := Option.isSome_iff_exists.1 h
  unfold faultT
  rw [ha]; rfl
theorem find_loop (x : Str) : ∀ (k fuel i : Nat), i + k = 60 → k < fuel → ∃ o, loopF (fault_Find_L1 x) fuel (i : Int) = some o ∧ ∀ e b, o = .ret (e, b) → b = true ∧ faultT e = x
  | 0, fuel + 1, i, hi, _ => by
    refine ⟨.fall (), loop_done ?_, fun e b h => by cases h⟩
    unfold fault_Find_L1
    exact cond_f (by simp; omega) rfl
  | k + 1, fuel + 1, i, hi, hk => by
    have hc : decide ((i : Int) ≤ 59) = true := by simp; omega
    cases hx : (faultT (i : Int) == x) with
    | true =>
      refine ⟨.ret ((i : Int), true), loop_done ?_, fun e b h => ?_⟩
      · unfold fault_Find_L1
        refine cond_t hc (bind_eq (fault_text _) ?_)
        exact cond_t hx rfl
      · simp only [Out.ret.injEq, Prod.mk.injEq] at h
        obtain ⟨rfl, rfl⟩ := h
        exact ⟨rfl, by simpa using hx⟩
    | false =>
      obtain ⟨o, h1, h2⟩ := find_loop x k fuel (i + 1) (by omega) (by omega)
      refine ⟨o, loop_next ?_ h1, h2⟩
      unfold fault_Find_L1
      refine cond_t hc (bind_eq (fault_text _) ?_)
      refine cond_f hx ?_
      rw [w64_eq (n := (i : Int) + 1) ⟨by omega, by omega⟩]
      rfl
theorem find_eq (x : Str) : ∃ e b, fault_Find x = some (e, b) ∧ (b = true → faultT e = x) := by
  unfold fault_Find
  cases h : (x == []) with
  | true => exact ⟨0, false, rfl, fun h => by cases h⟩
  | false =>
    obtain ⟨o, h1, h2⟩ := find_loop x 59 BIG 1 rfl (by show (59 : Nat) < 18446744073709551616; omega)
    rw [show ((1 : Nat) : Int) = 1 from rfl] at h1
    cases o with
    | fall _ => exact ⟨0, false, cond_f rfl (bind_eq h1 rfl), fun h => by cases h⟩
    | ret r =>
      obtain ⟨e, b⟩ := r
      exact ⟨e, b, cond_f rfl (bind_eq h1 rfl), fun _ => (h2 e b rfl).2⟩
theorem rfault (y : Str) (a : Nat) (h : a ≤ y.length) (hs : y.length ≤ 1000000) : ∃ e r, wire_reader_fault ⟨y, (a : Int), true⟩ = some (e, r) ∧ Rd y a (fun n => encT (faultT n)) e r := by
  unfold wire_reader_fault
  have e1 := rtext y a h hs
  cases d1 : takeT y a with
  | none =>
    rw [d1] at e1
    obtain ⟨e, b, h2, _⟩ := find_eq []
    exact ⟨_, _, bind_eq e1 (bind_eq h2 rfl), rfl, .inr rfl⟩
  | some q =>
    obtain ⟨t, p⟩ := q
    rw [d1] at e1
    obtain ⟨k1, k2, k3⟩ := takeT_enc d1
    obtain ⟨e, b, h2, h3⟩ := find_eq t
    refine ⟨_, _, bind_eq e1 (bind_eq h2 rfl), rfl, ?_⟩
    cases b with
    | false => exact .inr rfl
    | true => exact .inl ⟨rfl, p, rfl, k2, k1, by show encT (faultT e) = _; rw [h3 rfl]; exact k3⟩
theorem rfault_no (y : Str) (a : Int) : ∃ e, wire_reader_fault ⟨y, a, false⟩ = some (e, ⟨y, a, false⟩) := by
  unfold wire_reader_fault
  obtain ⟨e, b, h2, _⟩ := find_eq []
  exact ⟨_, bind_eq (rtext_no _ _) (bind_eq h2 rfl)⟩
theorem rnames_no (y : Str) (a : Int) : ∃ l, wire_reader_names ⟨y, a, false⟩ = some (l, ⟨y, a, false⟩) := by
  unfold wire_reader_names
  refine ⟨[], bind_eq (rnum_no _ _ _) (bind_eq (a := ([], ⟨y, a, false⟩)) ?_ rfl)⟩
  rw [show BIG = 18446744073709551615 + 1 from rfl]
  refine loop_done ?_
  unfold wire_reader_names_L1
  exact cond_f rfl rfl
theorem rqids_no (y : Str) (a : Int) : ∃ l, wire_reader_qids ⟨y, a, false⟩ = some (l, ⟨y, a, false⟩) := by
  unfold wire_reader_qids
  refine ⟨[], bind_eq (rnum_no _ _ _) (bind_eq (a := ([], ⟨y, a, false⟩)) ?_ rfl)⟩
  rw [show BIG = 18446744073709551615 + 1 from rfl]
  refine loop_done ?_
  unfold wire_reader_qids_L1
  exact cond_f rfl rfl
/-! ### Fields -/
inductive Lt where
  | m | v | s | a | u | x | q | f | e | o | n | w | W | M | i | N | p | O | c | d | S | l | t
deriving DecidableEq
def Lt.byte : Lt → Nat
  | .m => 109 | .v => 118 | .s => 115 | .a => 97 | .u => 117 | .x => 120 | .q => 113 | .f => 102 | .e => 101 | .o => 111 | .n => 110 | .w => 119
  | .W => 87 | .M => 77 | .i => 105 | .N => 78 | .p => 112 | .O => 79 | .c => 99 | .d => 100 | .S => 83 | .l => 108 | .t => 116
/-- How a field of a message is written. -/
def encF (k : Lt) (m : api_Msg) : Option Str := match k with
  | .m => encN m.Msize_ 4 | .v => encT m.Version_ | .s => encT m.Session_ | .a => encN m.AuthFid_ 4 | .u => encT m.User_ | .x => encT m.Attach_
  | .q => encQ m.Qid_ | .f => encN m.Fid_ 4 | .e => encT (faultT m.Err_) | .o => encN m.OldTag_ 2 | .n => encN m.NewFid_ 4 | .w => encL encT m.Names_
  | .W => encL encQ m.Qids_ | .M => encN m.Mode_ 1 | .i => encN m.Iounit_ 4 | .N => encT m.Name_ | .p => encN m.Perm_ 4 | .O => encN m.Offset_ 8
  | .c => encN m.Count_ 4 | .d => encD m.Data_ 4 | .S => encS m.Stat_ | .l => encN m.Lease_ 1 | .t => encN m.Term_ 4
/-- The field c of m' is taken over into m. -/
def cpF (k : Lt) (m' m : api_Msg) : api_Msg := match k with
  | .m => { m with Msize_ := m'.Msize_ } | .v => { m with Version_ := m'.Version_ } | .s => { m with Session_ := m'.Session_ } | .a => { m with AuthFid_ := m'.AuthFid_ }
  | .u => { m with User_ := m'.User_ } | .x => { m with Attach_ := m'.Attach_ } | .q => { m with Qid_ := m'.Qid_ } | .f => { m with Fid_ := m'.Fid_ }
  | .e => { m with Err_ := m'.Err_ } | .o => { m with OldTag_ := m'.OldTag_ } | .n => { m with NewFid_ := m'.NewFid_ } | .w => { m with Names_ := m'.Names_ }
  | .W => { m with Qids_ := m'.Qids_ } | .M => { m with Mode_ := m'.Mode_ } | .i => { m with Iounit_ := m'.Iounit_ } | .N => { m with Name_ := m'.Name_ }
  | .p => { m with Perm_ := m'.Perm_ } | .O => { m with Offset_ := m'.Offset_ } | .c => { m with Count_ := m'.Count_ } | .d => { m with Data_ := m'.Data_ }
  | .S => { m with Stat_ := m'.Stat_ } | .l => { m with Lease_ := m'.Lease_ } | .t => { m with Term_ := m'.Term_ }
theorem encF_cp (k : Lt) (m' m : api_Msg) : encF k (cpF k m' m) = encF k m' := by cases k <;> rfl
theorem encF_other (k k' : Lt) (h : k ≠ k') (m' m : api_Msg) : encF k (cpF k' m' m) = encF k m := by cases k <;> cases k' <;> first | exact absurd rfl h | rfl
theorem cp_kind (k : Lt) (m' m : api_Msg) : (cpF k m' m).Kind_ = m.Kind_ ∧ (cpF k m' m).Tag_ = m.Tag_ := by cases k <;> exact ⟨rfl, rfl⟩
theorem Rd.cp {α : Type} {y : Str} {a : Nat} {enc : α → Option Str} {x : α} {r : wire_reader} {enc' : api_Msg → Option Str} {m : api_Msg} (h : Rd y a enc x r) (he : enc x = enc' m) : Rd y a enc' m r :=
  ⟨h.1, h.2.imp (fun ⟨h1, p, h2, h3, h4, h5⟩ => ⟨h1, p, h2, h3, h4, he ▸ h5⟩) id⟩
theorem rnumR (y : Str) (a w : Nat) (h1 : 1 ≤ w) (h8 : w ≤ 8) (h : a ≤ y.length) (hs : y.length ≤ 1000000) : ∃ n r, wire_reader_number ⟨y, (a : Int), true⟩ (w : Int) = some (n, r) ∧ Rd y a (fun n => encN n w) n r := by
  have e1 := rnum y a w h1 h8 h hs
  cases d1 : decN y a w with
  | none => rw [d1] at e1; exact ⟨_, _, e1, rfl, .inr rfl⟩
  | some q =>
    obtain ⟨n, p⟩ := q
    rw [d1] at e1
    obtain ⟨a1, b1, c1, g1⟩ := decN_enc d1 h8
    exact ⟨_, _, e1, rfl, .inl ⟨rfl, p, rfl, by omega, b1, by rw [show p - a = w by omega]; exact g1⟩⟩
theorem rtextR (y : Str) (a : Nat) (h : a ≤ y.length) (hs : y.length ≤ 1000000) : ∃ t r, wire_reader_text ⟨y, (a : Int), true⟩ = some (t, r) ∧ Rd y a encT t r := by
  have e1 := rtext y a h hs
  cases d1 : takeT y a with
  | none => rw [d1] at e1; exact ⟨_, _, e1, rfl, .inr rfl⟩
  | some q =>
    obtain ⟨t, p⟩ := q
    rw [d1] at e1
    obtain ⟨k1, k2, k3⟩ := takeT_enc d1
    exact ⟨_, _, e1, rfl, .inl ⟨rfl, p, rfl, k2, k1, k3⟩⟩
/-- A field is read: the message takes it over; it is written as the bytes that were read. -/
theorem rfield (k : Lt) (y : Str) (a : Nat) (m : api_Msg) (h : a ≤ y.length) (hs : y.length ≤ 1000000) : ∃ m' r, wire_reader_field ⟨y, (a : Int), true⟩ m (k.byte : Int) = some (r, cpF k m' m) ∧ Rd y a (encF k) m' r := by
  have N : ∀ w : Nat, 1 ≤ w → w ≤ 8 → _ := fun w h1 h8 => rnumR y a w h1 h8 h hs
  have N1 := N 1 (by omega) (by omega)
  have N2 := N 2 (by omega) (by omega)
  have N4 := N 4 (by omega) (by omega)
  have N8 := N 8 (by omega) (by omega)
  rw [show ((1 : Nat) : Int) = 1 from rfl] at N1
  rw [show ((2 : Nat) : Int) = 2 from rfl] at N2
  rw [show ((4 : Nat) : Int) = 4 from rfl] at N4
  rw [show ((8 : Nat) : Int) = 8 from rfl] at N8
  have T := rtextR y a h hs
  unfold wire_reader_field
  cases k with
  | m => obtain ⟨n, r, e1, e2⟩ := N4; exact ⟨{ m with Msize_ := n }, r, bind_eq e1 rfl, e2.cp rfl⟩
  | v => obtain ⟨n, r, e1, e2⟩ := T; exact ⟨{ m with Version_ := n }, r, bind_eq e1 rfl, e2.cp rfl⟩
  | s => obtain ⟨n, r, e1, e2⟩ := T; exact ⟨{ m with Session_ := n }, r, bind_eq e1 rfl, e2.cp rfl⟩
  | a => obtain ⟨n, r, e1, e2⟩ := N4; exact ⟨{ m with AuthFid_ := n }, r, bind_eq e1 rfl, e2.cp rfl⟩
  | u => obtain ⟨n, r, e1, e2⟩ := T; exact ⟨{ m with User_ := n }, r, bind_eq e1 rfl, e2.cp rfl⟩
  | x => obtain ⟨n, r, e1, e2⟩ := T; exact ⟨{ m with Attach_ := n }, r, bind_eq e1 rfl, e2.cp rfl⟩
  | q => obtain ⟨n, r, e1, e2⟩ := rqid y a h hs; exact ⟨{ m with Qid_ := n }, r, bind_eq e1 rfl, e2⟩
  | f => obtain ⟨n, r, e1, e2⟩ := N4; exact ⟨{ m with Fid_ := n }, r, bind_eq e1 rfl, e2.cp rfl⟩
  | e => obtain ⟨n, r, e1, e2⟩ := rfault y a h hs; exact ⟨{ m with Err_ := n }, r, bind_eq e1 rfl, e2.cp rfl⟩
  | o => obtain ⟨n, r, e1, e2⟩ := N2; exact ⟨{ m with OldTag_ := n }, r, bind_eq e1 rfl, e2.cp rfl⟩
  | n => obtain ⟨n, r, e1, e2⟩ := N4; exact ⟨{ m with NewFid_ := n }, r, bind_eq e1 rfl, e2.cp rfl⟩
  | w => obtain ⟨n, r, e1, e2⟩ := rnames y a h hs; exact ⟨{ m with Names_ := n }, r, bind_eq e1 rfl, e2.cp rfl⟩
  | W => obtain ⟨n, r, e1, e2⟩ := rqids y a h hs; exact ⟨{ m with Qids_ := n }, r, bind_eq e1 rfl, e2.cp rfl⟩
  | M => obtain ⟨n, r, e1, e2⟩ := N1; exact ⟨{ m with Mode_ := n }, r, bind_eq e1 rfl, e2.cp rfl⟩
  | i => obtain ⟨n, r, e1, e2⟩ := N4; exact ⟨{ m with Iounit_ := n }, r, bind_eq e1 rfl, e2.cp rfl⟩
  | N => obtain ⟨n, r, e1, e2⟩ := T; exact ⟨{ m with Name_ := n }, r, bind_eq e1 rfl, e2.cp rfl⟩
  | p => obtain ⟨n, r, e1, e2⟩ := N4; exact ⟨{ m with Perm_ := n }, r, bind_eq e1 rfl, e2.cp rfl⟩
  | O => obtain ⟨n, r, e1, e2⟩ := N8; exact ⟨{ m with Offset_ := n }, r, bind_eq e1 rfl, e2.cp rfl⟩
  | c => obtain ⟨n, r, e1, e2⟩ := N4; exact ⟨{ m with Count_ := n }, r, bind_eq e1 rfl, e2.cp rfl⟩
  | d => obtain ⟨n, r, e1, e2⟩ := rdata y a 4 (by omega) (by omega) h hs; exact ⟨{ m with Data_ := n }, r, bind_eq e1 rfl, e2.cp rfl⟩
  | S => obtain ⟨n, r, e1, e2⟩ := rstat y a h hs; exact ⟨{ m with Stat_ := n }, r, bind_eq e1 rfl, e2.cp rfl⟩
  | l => obtain ⟨n, r, e1, e2⟩ := N1; exact ⟨{ m with Lease_ := n }, r, bind_eq e1 rfl, e2.cp rfl⟩
  | t => obtain ⟨n, r, e1, e2⟩ := N4; exact ⟨{ m with Term_ := n }, r, bind_eq e1 rfl, e2.cp rfl⟩
theorem no_two {α : Type} {x : Option (α × wire_reader)} {r0 : wire_reader} (h : ∃ n, x = some (n, r0)) : ∃ n r, x = some (n, r) ∧ r = r0 := let ⟨n, h⟩ := h; ⟨n, r0, h, rfl⟩
theorem xnum_no (r : wire_reader) (h : r.ok_ = false) (w : Int) : ∃ n, wire_reader_number r w = some (n, r) := by
  obtain ⟨y, a, o⟩ := r; cases h; exact ⟨_, rnum_no y a w⟩
theorem xtext_no (r : wire_reader) (h : r.ok_ = false) : ∃ n, wire_reader_text r = some (n, r) := by
  obtain ⟨y, a, o⟩ := r; cases h; exact ⟨_, rtext_no y a⟩
theorem xqid_no (r : wire_reader) (h : r.ok_ = false) : ∃ n, wire_reader_qid r = some (n, r) := by
  obtain ⟨y, a, o⟩ := r; cases h; exact rqid_no y a
theorem xfault_no (r : wire_reader) (h : r.ok_ = false) : ∃ n, wire_reader_fault r = some (n, r) := by
  obtain ⟨y, a, o⟩ := r; cases h; exact rfault_no y a
theorem xnames_no (r : wire_reader) (h : r.ok_ = false) : ∃ n, wire_reader_names r = some (n, r) := by
  obtain ⟨y, a, o⟩ := r; cases h; exact rnames_no y a
theorem xqids_no (r : wire_reader) (h : r.ok_ = false) : ∃ n, wire_reader_qids r = some (n, r) := by
  obtain ⟨y, a, o⟩ := r; cases h; exact rqids_no y a
theorem xdata_no (r : wire_reader) (h : r.ok_ = false) (w : Int) : ∃ n, wire_reader_data r w = some (n, r) := by
  obtain ⟨y, a, o⟩ := r; cases h; exact rdata_no y a w
theorem xstat_no (r : wire_reader) (h : r.ok_ = false) : ∃ n, wire_reader_stat r = some (n, r) := by
  obtain ⟨y, a, o⟩ := r; cases h; exact rstat_no y a
/-- A reader that has failed reads on without a word. -/
theorem rfield_no (k : Lt) (r0 : wire_reader) (h : r0.ok_ = false) (m : api_Msg) : ∃ m', wire_reader_field r0 m (k.byte : Int) = some (r0, cpF k m' m) := by
  unfold wire_reader_field
  cases k with
  | m => obtain ⟨n, e1⟩ := xnum_no r0 h 4; exact ⟨{ m with Msize_ := n }, bind_eq e1 rfl⟩
  | v => obtain ⟨n, e1⟩ := xtext_no r0 h; exact ⟨{ m with Version_ := n }, bind_eq e1 rfl⟩
  | s => obtain ⟨n, e1⟩ := xtext_no r0 h; exact ⟨{ m with Session_ := n }, bind_eq e1 rfl⟩
  | a => obtain ⟨n, e1⟩ := xnum_no r0 h 4; exact ⟨{ m with AuthFid_ := n }, bind_eq e1 rfl⟩
  | u => obtain ⟨n, e1⟩ := xtext_no r0 h; exact ⟨{ m with User_ := n }, bind_eq e1 rfl⟩
  | x => obtain ⟨n, e1⟩ := xtext_no r0 h; exact ⟨{ m with Attach_ := n }, bind_eq e1 rfl⟩
  | q => obtain ⟨n, e1⟩ := xqid_no r0 h; exact ⟨{ m with Qid_ := n }, bind_eq e1 rfl⟩
  | f => obtain ⟨n, e1⟩ := xnum_no r0 h 4; exact ⟨{ m with Fid_ := n }, bind_eq e1 rfl⟩
  | e => obtain ⟨n, e1⟩ := xfault_no r0 h; exact ⟨{ m with Err_ := n }, bind_eq e1 rfl⟩
  | o => obtain ⟨n, e1⟩ := xnum_no r0 h 2; exact ⟨{ m with OldTag_ := n }, bind_eq e1 rfl⟩
  | n => obtain ⟨n, e1⟩ := xnum_no r0 h 4; exact ⟨{ m with NewFid_ := n }, bind_eq e1 rfl⟩
  | w => obtain ⟨n, e1⟩ := xnames_no r0 h; exact ⟨{ m with Names_ := n }, bind_eq e1 rfl⟩
  | W => obtain ⟨n, e1⟩ := xqids_no r0 h; exact ⟨{ m with Qids_ := n }, bind_eq e1 rfl⟩
  | M => obtain ⟨n, e1⟩ := xnum_no r0 h 1; exact ⟨{ m with Mode_ := n }, bind_eq e1 rfl⟩
  | i => obtain ⟨n, e1⟩ := xnum_no r0 h 4; exact ⟨{ m with Iounit_ := n }, bind_eq e1 rfl⟩
  | N => obtain ⟨n, e1⟩ := xtext_no r0 h; exact ⟨{ m with Name_ := n }, bind_eq e1 rfl⟩
  | p => obtain ⟨n, e1⟩ := xnum_no r0 h 4; exact ⟨{ m with Perm_ := n }, bind_eq e1 rfl⟩
  | O => obtain ⟨n, e1⟩ := xnum_no r0 h 8; exact ⟨{ m with Offset_ := n }, bind_eq e1 rfl⟩
  | c => obtain ⟨n, e1⟩ := xnum_no r0 h 4; exact ⟨{ m with Count_ := n }, bind_eq e1 rfl⟩
  | d => obtain ⟨n, e1⟩ := xdata_no r0 h 4; exact ⟨{ m with Data_ := n }, bind_eq e1 rfl⟩
  | S => obtain ⟨n, e1⟩ := xstat_no r0 h; exact ⟨{ m with Stat_ := n }, bind_eq e1 rfl⟩
  | l => obtain ⟨n, e1⟩ := xnum_no r0 h 1; exact ⟨{ m with Lease_ := n }, bind_eq e1 rfl⟩
  | t => obtain ⟨n, e1⟩ := xnum_no r0 h 4; exact ⟨{ m with Term_ := n }, bind_eq e1 rfl⟩
end Go.Proofs.YtboplmpnjepdnaaGreat

/-
  Plain laws: the check of messages; the layouts. No program in sight.
-/
namespace Go.Proofs.YtboplmpnjepdnaaGreat
open Go.Rt Go.RowKit

theorem some_bind {α β : Type} {x : Option α} {f : α → Option β} (h : x.isSome = true) (hf : ∀ a, x = some a → (f a).isSome = true) : (x.bind f).isSome = true := by
  cases x with
  | none => cases h
  | some a => exact hf a rfl
theorem some_ite {α : Type} {c : Bool} {a b : Option α} (h : c = true → a.isSome = true) (h' : c = false → b.isSome = true) : (bif c then a else b).isSome = true := by
  cases c with
  | true => exact h rfl
  | false => exact h' rfl
theorem Option.get_some {α : Type} {x : Option α} (h : x.isSome = true) : ∃ a, x = some a := Option.isSome_iff_exists.1 h
/-- A loop over a list that ends at the first element that answers. -/
theorem loop_all3 {α β : Type} {body : Int → Option (Step Int (Out Unit β))} (xs : List α) (p : α → Option β) (hn : xs.length < BIG)
    (hb : ∀ i (h : i < xs.length), body (i : Int) = match p xs[i] with | none => some (.next ((i + 1 : Nat) : Int)) | some r => some (.done (.ret r)))
    (he : body (xs.length : Int) = some (.done (.fall ()))) : loopF body BIG 0 = some (match xs.findSome? p with | none => .fall () | some r => .ret r) := by
  refine loopF_up (J := fun i s b => s = (i : Int) ∧ b = match (xs.drop i).findSome? p with | none => .fall () | some r => .ret r) xs.length hn (fun s b hJ => ?_) (fun i s b hi hJ => ?_) (by simp)
  · obtain ⟨rfl, rfl⟩ := hJ
    rw [he]; simp
  · obtain ⟨rfl, rfl⟩ := hJ
    rw [hb i hi, List.drop_eq_getElem_cons hi, List.findSome?_cons]
    cases hp : p xs[i] with
    | none => exact .inr ⟨_, rfl, rfl, rfl⟩
    | some r => exact .inl rfl
theorem find_none {α β : Type} {p : α → Option β} : ∀ {xs : List α}, xs.findSome? p = none → ∀ x ∈ xs, p x = none
  | [], _, x, h => by cases h
  | y :: xs, h, x, hx => by
    rw [List.findSome?_cons] at h
    cases hp : p y with
    | some r => rw [hp] at h; cases h
    | none =>
      rw [hp] at h
      cases hx with
      | head => exact hp
      | tail _ hx => exact find_none h x hx
/-- Two lists of one length, told apart. -/
theorem zip_find {α : Type} [DecidableEq α] : ∀ (xs ys : List α), xs.length = ys.length → (xs.zip ys).findSome? (fun p => if p.1 = p.2 then none else some false) = if xs = ys then none else some false
  | [], [], _ => rfl
  | [], _ :: _, h => by cases h
  | _ :: _, [], h => by cases h
  | x :: xs, y :: ys, h => by
    rw [List.zip_cons_cons, List.findSome?_cons]
    by_cases hx : x = y
    · subst hx
      simp only [if_true]
      rw [zip_find xs ys (by simpa using h)]
      simp
    · simp [hx]
theorem zip_len {α : Type} {xs ys : List α} (h : xs.length = ys.length) : (xs.zip ys).length = xs.length := by simp [h]
/-! ### Small functions -/
theorem name_some (k : Int) : (msg_Name k).isSome = true := by
  unfold msg_Name
  refine some_ite (fun _ => rfl) fun h => ?_
  simp only [Bool.or_eq_false_iff, decide_eq_false_iff_not] at h
  obtain ⟨n, hn⟩ : ∃ n : Nat, k - 100 = (n : Int) := ⟨(k - 100).toNat, by omega⟩
  rw [hn, w64_eq (n := (n : Int)) ⟨by omega, by omega⟩]
  refine some_bind ?_ fun _ _ => rfl
  rw [getI_lt (by show n < 32; omega)]; rfl
def inR (x a b : Int) : Int := if a ≤ x ∧ x ≤ b then 0 else 5
theorem in_eq (x a b : Int) : msg_in x a b = some (inR x a b) := by
  unfold msg_in inR
  by_cases h : a ≤ x ∧ x ≤ b
  · rw [if_pos h]; exact cond_f (by simp; omega) rfl
  · rw [if_neg h]; exact cond_t (by simp; omega) rfl
theorem fid_eq (x : Int) : msg_fid x = some (inR x 0 4294967294) := by
  unfold msg_fid; rw [in_eq]; rfl
def shortR (s : Str) (n : Int) : Int := if (s.length : Int) ≤ n then 0 else 4
theorem short_eq (s : Str) (n : Int) : msg_short s n = some (shortR s n) := by
  unfold msg_short shortR
  by_cases h : (s.length : Int) ≤ n
  · rw [if_pos h]; exact cond_f (by simp; omega) rfl
  · rw [if_neg h]; exact cond_t (by simp; omega) rfl
def first1 (y : Int) : Option Int := if y = 0 then none else some y
def firstR (xs : List Int) : Int := match xs.findSome? first1 with | none => 0 | some y => y
theorem first_eq (xs : List Int) (h : xs.length ≤ 1000000) : msg_first xs = some (firstR xs) := by
  unfold msg_first
  have hB : BIG = 18446744073709551616 := rfl
  refine bind_eq (loop_all3 xs first1 (by omega) (fun i hi => ?_) ?_) ?_
  · unfold msg_first_L1
    refine cond_t (by simp; omega) (bind_eq (getI_lt hi) ?_)
    rw [w64_eq (n := (i : Int) + 1) ⟨by omega, by omega⟩]
    unfold first1
    by_cases hy : xs[i] = 0
    · rw [if_pos hy]; exact cond_f (by simp [hy]) rfl
    · rw [if_neg hy]; exact cond_t (by simp [hy]) rfl
  · unfold msg_first_L1
    exact cond_f (by simp) rfl
  · unfold firstR
    cases xs.findSome? first1 <;> rfl
theorem first_zero {xs : List Int} (h : firstR xs = 0) : ∀ x ∈ xs, x = 0 := by
  unfold firstR at h
  have key : xs.findSome? first1 = none := by
    cases e : xs.findSome? first1 with
    | none => rfl
    | some y =>
      rw [e] at h
      obtain ⟨a, _, ha⟩ := List.exists_of_findSome?_eq_some e
      unfold first1 at ha
      split at ha
      · cases ha
      · cases ha; exact absurd h ‹_›
  intro x hx
  have := find_none key x hx
  unfold first1 at this
  split at this
  · assumption
  · cases this
def qidR (q : api_Qid) : Int := if decide (q.Type_ < 0) || (andNotI .i64 q.Type_ 232 != 0) then 5 else firstR [inR q.Vers_ 0 2147483647, inR q.Path_ 0 1099511627776]
theorem qid_eq (q : api_Qid) : msg_qid q = some (qidR q) := by
  unfold msg_qid qidR
  cases h : (decide (q.Type_ < 0) || (andNotI .i64 q.Type_ 232 != 0)) with
  | true => rfl
  | false => exact cond_f rfl (bind_eq (in_eq _ _ _) (bind_eq (in_eq _ _ _) (bind_eq (first_eq _ (by simp)) rfl)))
def name1 (s : Str) : Option Int := if s = [46, 46] ∨ okName s = true then none else some 6
def namesR (l : List Str) : Int := if l.length > 16 then 4 else match l.findSome? name1 with | none => 0 | some y => y
theorem names_eq (l : List Str) (hl : ∀ s ∈ l, s.length ≤ 9223372036854775807) : msg_names l = some (namesR l) := by
  unfold msg_names namesR
  have hB : BIG = 18446744073709551616 := rfl
  by_cases h : l.length > 16
  · rw [if_pos h]; exact cond_t (by simp; omega) rfl
  · rw [if_neg h]
    refine cond_f (by simp; omega) (bind_eq (loop_all3 l name1 (by omega) (fun i hi => ?_) ?_) ?_)
    · unfold msg_names_L1
      refine cond_t (by simp; omega) (bind_eq (getI_lt hi) ?_)
      rw [w64_eq (n := (i : Int) + 1) ⟨by omega, by omega⟩, valid_eq _ (hl _ (List.getElem_mem hi))]
      generalize l[i] = s
      unfold name1
      by_cases h1 : s = [46, 46]
      · subst h1; rfl
      · have h2 : (!(s == [46, 46])) = true := by simpa using h1
        rw [h2]
        cases okName s <;> simp [h1]
    · unfold msg_names_L1
      exact cond_f (by simp) rfl
    · cases l.findSome? name1 <;> rfl
def qid1 (q : api_Qid) : Option Int := first1 (qidR q)
def qidsR (l : List api_Qid) : Int := if l.length > 16 then 4 else match l.findSome? qid1 with | none => 0 | some y => y
theorem qids_eq (l : List api_Qid) : msg_qids l = some (qidsR l) := by
  unfold msg_qids qidsR
  have hB : BIG = 18446744073709551616 := rfl
  by_cases h : l.length > 16
  · rw [if_pos h]; exact cond_t (by simp; omega) rfl
  · rw [if_neg h]
    refine cond_f (by simp; omega) (bind_eq (loop_all3 l qid1 (by omega) (fun i hi => ?_) ?_) ?_)
    · unfold msg_qids_L1
      refine cond_t (by simp; omega) (bind_eq (getI_lt hi) (bind_eq (qid_eq _) ?_))
      rw [w64_eq (n := (i : Int) + 1) ⟨by omega, by omega⟩]
      unfold qid1 first1
      by_cases hy : qidR l[i] = 0
      · rw [if_pos hy]; exact cond_f (by simp [hy]) rfl
      · rw [if_neg hy]; exact cond_t (by simp [hy]) rfl
    · unfold msg_qids_L1
      exact cond_f (by simp) rfl
    · cases l.findSome? qid1 <;> rfl
theorem named_eq (s : Str) (h : s.length ≤ 9223372036854775807) : msg_named s = some (if okName s then 0 else 6) := by
  unfold msg_named
  refine bind_eq (valid_eq s h) ?_
  cases okName s <;> rfl
theorem strs_eq (xs ys : List Str) (h : xs.length ≤ 9223372036854775807) : slices_Equal_stringstring xs ys = some (decide (xs = ys)) := by
  unfold slices_Equal_stringstring
  have hB : BIG = 18446744073709551616 := rfl
  by_cases hl : xs.length = ys.length
  · refine cond_f (by simp; omega) (bind_eq (loop_all3 (xs.zip ys) (fun p => if p.1 = p.2 then none else some false) (by rw [zip_len hl]; omega) (fun i hi => ?_) ?_) ?_)
    · rw [zip_len hl] at hi
      unfold slices_Equal_stringstring_L1
      refine cond_t (by simp; omega) (bind_eq (getI_lt hi) (bind_eq (getI_lt (hl ▸ hi)) ?_))
      rw [w64_eq (n := (i : Int) + 1) ⟨by omega, by omega⟩]
      rw [List.getElem_zip]
      by_cases he : xs[i] = ys[i]
      · simp only [he, if_true]; exact cond_f (by simp) rfl
      · simp only [he, if_false]; exact cond_t (by simpa using he) rfl
    · rw [zip_len hl]
      unfold slices_Equal_stringstring_L1
      exact cond_f (by simp) rfl
    · rw [zip_find xs ys hl]
      by_cases he : xs = ys <;> simp [he]
  · refine cond_t (by simp; omega) ?_
    have : xs ≠ ys := fun h => hl (by rw [h])
    simp [this]
theorem qidl_eq (xs ys : List api_Qid) (h : xs.length ≤ 9223372036854775807) : slices_Equal_apiQidapiQid xs ys = some (decide (xs = ys)) := by
  unfold slices_Equal_apiQidapiQid
  have hB : BIG = 18446744073709551616 := rfl
  by_cases hl : xs.length = ys.length
  · refine cond_f (by simp; omega) (bind_eq (loop_all3 (xs.zip ys) (fun p => if p.1 = p.2 then none else some false) (by rw [zip_len hl]; omega) (fun i hi => ?_) ?_) ?_)
    · rw [zip_len hl] at hi
      unfold slices_Equal_apiQidapiQid_L1
      refine cond_t (by simp; omega) (bind_eq (getI_lt hi) (bind_eq (getI_lt (hl ▸ hi)) ?_))
      rw [w64_eq (n := (i : Int) + 1) ⟨by omega, by omega⟩]
      rw [List.getElem_zip]
      by_cases he : xs[i] = ys[i]
      · simp only [he, if_true]; exact cond_f (by simp) rfl
      · simp only [he, if_false]; exact cond_t (by simp) rfl
    · rw [zip_len hl]
      unfold slices_Equal_apiQidapiQid_L1
      exact cond_f (by simp) rfl
    · rw [zip_find xs ys hl]
      by_cases he : xs = ys <;> simp [he]
  · refine cond_t (by simp; omega) ?_
    have : xs ≠ ys := fun h => hl (by rw [h])
    simp [this]
/-! ### The check -/
/-- What the check needs so as to end. -/
def api_Msg.small (m : api_Msg) : Prop := m.Names_.length ≤ 9223372036854775807 ∧ (∀ s ∈ m.Names_, s.length ≤ 9223372036854775807) ∧ m.Qids_.length ≤ 9223372036854775807 ∧ m.Name_.length ≤ 9223372036854775807 ∧ m.Stat_.ok
theorem same_eq (x y : api_Msg) (hx : x.Names_.length ≤ 9223372036854775807) (hq : x.Qids_.length ≤ 9223372036854775807) : msg_Same x y = some (decide (x = y)) := by
  unfold msg_Same msg_Same_1 msg_Same_2
  rw [strs_eq x.Names_ y.Names_ hx, qidl_eq x.Qids_ y.Qids_ hq]
  obtain ⟨x1, x2, x3, x4, x5, x6, x7, x8, x9, x10, x11, x12, x13, x14, x15, x16, x17, x18, x19, x20, x21, x22, x23, x24, x25⟩ := x
  obtain ⟨y1, y2, y3, y4, y5, y6, y7, y8, y9, y10, y11, y12, y13, y14, y15, y16, y17, y18, y19, y20, y21, y22, y23, y24, y25⟩ := y
  simp only [Option.bind_some, Arr13_int.mk.injEq, Arr6_string.mk.injEq, api_Msg.mk.injEq]
  by_cases a1 : x1 = y1 ∧ x2 = y2 ∧ x3 = y3 ∧ x4 = y4 ∧ x5 = y5 ∧ x6 = y6 ∧ x7 = y7 ∧ x14 = y14 ∧ x15 = y15 ∧ x16 = y16 ∧ x18 = y18 ∧ x19 = y19 ∧ x23 = y23
  · by_cases a2 : x8 = y8 ∧ x9 = y9 ∧ x10 = y10 ∧ x17 = y17 ∧ x20 = y20 ∧ x25 = y25
    · by_cases b1 : x24 = y24 <;> by_cases b2 : x22 = y22 <;> by_cases b3 : x13 = y13 <;> by_cases b4 : x21 = y21 <;> by_cases b5 : x11 = y11 <;> by_cases b6 : x12 = y12 <;>
      simp only [a1, a2, b1, b2, b3, b4, b5, b6, and_true, and_false, and_self, decide_true, decide_false, cond_true, cond_false, Option.bind_some, beq_self_eq_true, show ∀ a b : Int, (a == b) = decide (a = b) from fun _ _ => rfl, Bool.and_true, Bool.and_false]
    · have : ¬ (x1 = y1 ∧ x2 = y2 ∧ x3 = y3 ∧ x4 = y4 ∧ x5 = y5 ∧ x6 = y6 ∧ x7 = y7 ∧ x8 = y8 ∧ x9 = y9 ∧ x10 = y10 ∧ x11 = y11 ∧ x12 = y12 ∧ x13 = y13 ∧ x14 = y14 ∧ x15 = y15 ∧ x16 = y16 ∧ x17 = y17 ∧ x18 = y18 ∧ x19 = y19 ∧ x20 = y20 ∧ x21 = y21 ∧ x22 = y22 ∧ x23 = y23 ∧ x24 = y24 ∧ x25 = y25) := fun h => a2 ⟨h.2.2.2.2.2.2.2.1, h.2.2.2.2.2.2.2.2.1, h.2.2.2.2.2.2.2.2.2.1, h.2.2.2.2.2.2.2.2.2.2.2.2.2.2.2.2.1, h.2.2.2.2.2.2.2.2.2.2.2.2.2.2.2.2.2.2.2.1, h.2.2.2.2.2.2.2.2.2.2.2.2.2.2.2.2.2.2.2.2.2.2.2.2⟩
      simp only [decide_eq_true a1, decide_eq_false a2, decide_eq_false this, cond_true, cond_false, Option.bind_some, Bool.false_and]
  · have : ¬ (x1 = y1 ∧ x2 = y2 ∧ x3 = y3 ∧ x4 = y4 ∧ x5 = y5 ∧ x6 = y6 ∧ x7 = y7 ∧ x8 = y8 ∧ x9 = y9 ∧ x10 = y10 ∧ x11 = y11 ∧ x12 = y12 ∧ x13 = y13 ∧ x14 = y14 ∧ x15 = y15 ∧ x16 = y16 ∧ x17 = y17 ∧ x18 = y18 ∧ x19 = y19 ∧ x20 = y20 ∧ x21 = y21 ∧ x22 = y22 ∧ x23 = y23 ∧ x24 = y24 ∧ x25 = y25) := fun h => a1 ⟨h.1, h.2.1, h.2.2.1, h.2.2.2.1, h.2.2.2.2.1, h.2.2.2.2.2.1, h.2.2.2.2.2.2.1, h.2.2.2.2.2.2.2.2.2.2.2.2.2.1, h.2.2.2.2.2.2.2.2.2.2.2.2.2.2.1, h.2.2.2.2.2.2.2.2.2.2.2.2.2.2.2.1, h.2.2.2.2.2.2.2.2.2.2.2.2.2.2.2.2.2.1, h.2.2.2.2.2.2.2.2.2.2.2.2.2.2.2.2.2.2.1, h.2.2.2.2.2.2.2.2.2.2.2.2.2.2.2.2.2.2.2.2.2.2.1⟩
    simp only [decide_eq_false a1, decide_eq_false this, cond_false, Option.bind_some, Bool.false_and]

theorem tagged_some (m : api_Msg) : (msg_tagged m).isSome = true := by
  unfold msg_tagged
  repeat (first | rfl | refine some_bind ?_ fun _ _ => ?_ | refine some_ite (fun _ => ?_) fun _ => ?_)
theorem rest_some (m x : api_Msg) : (msg_rest m x).isSome = true := by
  unfold msg_rest
  repeat (first | rfl | refine some_bind ?_ fun _ _ => ?_ | refine some_ite (fun _ => ?_) fun _ => ?_)
theorem fields_some (m : api_Msg) (h : m.small) : (msg_fields m).isSome = true := by
  obtain ⟨_, h2, _, h4, h5⟩ := h
  unfold msg_fields
  rw [names_eq _ h2, named_eq _ h4, check_eq _ h5 h5.2.2.2.2.2.2.2.1]
  simp only [in_eq, short_eq, fid_eq, qid_eq, qids_eq]
  repeat (first | rfl | refine some_ite (fun _ => ?_) fun _ => ?_ | (refine some_bind (by rw [first_eq _ (by simp)]; rfl) fun _ _ => ?_) | refine some_bind ?_ fun _ _ => ?_)
/-! ### Layouts -/
def Lt.b8 (k : Lt) : UInt8 := UInt8.ofNat k.byte
theorem Lt.b8_nat (k : Lt) : k.b8.toNat = k.byte := by cases k <;> rfl
def layB (l : List Lt) : Str := l.map Lt.b8
/-- The fields of l are taken over, one by one. -/
def cps (l : List Lt) (m' m : api_Msg) : api_Msg := l.foldl (fun a k => cpF k m' a) m
def zeroM (k t : Int) : api_Msg := api_Msg.mk k t 0 0 0 0 0 [] [] [] [] [] (api_Qid.mk 0 0 0) 0 0 0 [] 0 0 [] (api_Dir.mk 0 0 (api_Qid.mk 0 0 0) 0 0 0 0 [] [] [] []) 0 0 0 []
def Lays (o : Option Str) : Prop := ∃ l : List Lt, o = some (layB l) ∧ l.Nodup ∧ l.length ≤ 100
theorem Lays.ite {c : Bool} {a b : Option Str} (h : Lays a) (h' : Lays b) : Lays (bif c then a else b) := by
  cases c with
  | true => exact h
  | false => exact h'
theorem Lays.bind {α : Type} {x : Option α} {f : α → Option Str} (h : x.isSome = true) (hf : ∀ a, Lays (f a)) : Lays (x.bind f) := by
  cases x with
  | none => cases h
  | some a => exact hf a
theorem lay_any (k : Int) : Lays (wire_layout k) := by
  unfold wire_layout
  refine Lays.ite ⟨[.m, .v], rfl, by decide, by decide⟩ ?_
  refine Lays.ite ⟨[.m, .v, .s], rfl, by decide, by decide⟩ ?_
  refine Lays.ite ⟨[.a, .u, .x], rfl, by decide, by decide⟩ ?_
  refine Lays.bind (by repeat (first | rfl | refine some_ite (fun _ => ?_) fun _ => ?_)) fun _ => ?_
  refine Lays.ite ⟨[.q], rfl, by decide, by decide⟩ ?_
  refine Lays.ite ⟨[.f, .a, .u, .x], rfl, by decide, by decide⟩ ?_
  refine Lays.ite ⟨[.e], rfl, by decide, by decide⟩ ?_
  refine Lays.ite ⟨[.o], rfl, by decide, by decide⟩ ?_
  refine Lays.ite ⟨[.f, .n, .w], rfl, by decide, by decide⟩ ?_
  refine Lays.ite ⟨[.W], rfl, by decide, by decide⟩ ?_
  refine Lays.ite ⟨[.f, .M], rfl, by decide, by decide⟩ ?_
  refine Lays.bind (by repeat (first | rfl | refine some_ite (fun _ => ?_) fun _ => ?_)) fun _ => ?_
  refine Lays.ite ⟨[.q, .i], rfl, by decide, by decide⟩ ?_
  refine Lays.ite ⟨[.f, .N, .p, .M], rfl, by decide, by decide⟩ ?_
  refine Lays.ite ⟨[.f, .O, .c], rfl, by decide, by decide⟩ ?_
  refine Lays.ite ⟨[.d], rfl, by decide, by decide⟩ ?_
  refine Lays.ite ⟨[.f, .O, .d], rfl, by decide, by decide⟩ ?_
  refine Lays.ite ⟨[.c], rfl, by decide, by decide⟩ ?_
  refine Lays.bind (by repeat (first | rfl | refine some_ite (fun _ => ?_) fun _ => ?_)) fun _ => ?_
  refine Lays.ite ⟨[.f], rfl, by decide, by decide⟩ ?_
  refine Lays.ite ⟨[.S], rfl, by decide, by decide⟩ ?_
  refine Lays.ite ⟨[.f, .S], rfl, by decide, by decide⟩ ?_
  refine Lays.ite ⟨[.f, .l, .t], rfl, by decide, by decide⟩ ?_
  refine Lays.ite ⟨[.q, .l, .t], rfl, by decide, by decide⟩ ?_
  refine Lays.ite ⟨[.s], rfl, by decide, by decide⟩ ?_
  exact ⟨[], rfl, by decide, by decide⟩
theorem named_kind {k : Int} {t : Str} (h : msg_Name k = some t) (ht : t ≠ []) : k = 100 ∨ k = 101 ∨ k = 102 ∨ k = 103 ∨ k = 104 ∨ k = 105 ∨ k = 107 ∨ k = 108 ∨ k = 109 ∨ k = 110 ∨ k = 111 ∨ k = 112 ∨ k = 113 ∨ k = 114 ∨ k = 115 ∨ k = 116 ∨ k = 117 ∨ k = 118 ∨ k = 119 ∨ k = 120 ∨ k = 121 ∨ k = 122 ∨ k = 123 ∨ k = 124 ∨ k = 125 ∨ k = 126 ∨ k = 127 ∨ k = 128 ∨ k = 129 ∨ k = 130 ∨ k = 131 := by
  unfold msg_Name at h
  cases hc : (decide (k < 100) || decide (k > 131)) with
  | true => rw [hc] at h; exact absurd (Option.some.inj h).symm ht
  | false =>
    simp only [Bool.or_eq_false_iff, decide_eq_false_iff_not] at hc
    by_cases h6 : k = 106
    · subst h6; exact absurd (Option.some.inj h).symm ht
    · omega
/-- The layout of a kind; what its message holds, and nothing else. -/
theorem lay_only (m : api_Msg) {t : Str} (h : msg_Name m.Kind_ = some t) (ht : t ≠ []) : ∃ l : List Lt, wire_layout m.Kind_ = some (layB l) ∧ l.Nodup ∧ l.length ≤ 100 ∧ msg_only m = some (cps l m (zeroM m.Kind_ m.Tag_)) := by
  have hk := named_kind h ht
  clear h ht
  obtain ⟨x1, x2, x3, x4, x5, x6, x7, x8, x9, x10, x11, x12, x13, x14, x15, x16, x17, x18, x19, x20, x21, x22, x23, x24, x25⟩ := m
  simp only at hk
  rcases hk with rfl | rfl | rfl | rfl | rfl | rfl | rfl | rfl | rfl | rfl | rfl | rfl | rfl | rfl | rfl | rfl | rfl | rfl | rfl | rfl | rfl | rfl | rfl | rfl | rfl | rfl | rfl | rfl | rfl | rfl | rfl
  · exact ⟨[.m, .v], rfl, by decide, by decide, rfl⟩
  · exact ⟨[.m, .v, .s], rfl, by decide, by decide, rfl⟩
  · exact ⟨[.a, .u, .x], rfl, by decide, by decide, rfl⟩
  · exact ⟨[.q], rfl, by decide, by decide, rfl⟩
  · exact ⟨[.f, .a, .u, .x], rfl, by decide, by decide, rfl⟩
  · exact ⟨[.q], rfl, by decide, by decide, rfl⟩
  · exact ⟨[.e], rfl, by decide, by decide, rfl⟩
  · exact ⟨[.o], rfl, by decide, by decide, rfl⟩
  · exact ⟨[], rfl, by decide, by decide, rfl⟩
  · exact ⟨[.f, .n, .w], rfl, by decide, by decide, rfl⟩
  · exact ⟨[.W], rfl, by decide, by decide, rfl⟩
  · exact ⟨[.f, .M], rfl, by decide, by decide, rfl⟩
  · exact ⟨[.q, .i], rfl, by decide, by decide, rfl⟩
  · exact ⟨[.f, .N, .p, .M], rfl, by decide, by decide, rfl⟩
  · exact ⟨[.q, .i], rfl, by decide, by decide, rfl⟩
  · exact ⟨[.f, .O, .c], rfl, by decide, by decide, rfl⟩
  · exact ⟨[.d], rfl, by decide, by decide, rfl⟩
  · exact ⟨[.f, .O, .d], rfl, by decide, by decide, rfl⟩
  · exact ⟨[.c], rfl, by decide, by decide, rfl⟩
  · exact ⟨[.f], rfl, by decide, by decide, rfl⟩
  · exact ⟨[], rfl, by decide, by decide, rfl⟩
  · exact ⟨[.f], rfl, by decide, by decide, rfl⟩
  · exact ⟨[], rfl, by decide, by decide, rfl⟩
  · exact ⟨[.f], rfl, by decide, by decide, rfl⟩
  · exact ⟨[.S], rfl, by decide, by decide, rfl⟩
  · exact ⟨[.f, .S], rfl, by decide, by decide, rfl⟩
  · exact ⟨[], rfl, by decide, by decide, rfl⟩
  · exact ⟨[.f, .l, .t], rfl, by decide, by decide, rfl⟩
  · exact ⟨[.q, .l, .t], rfl, by decide, by decide, rfl⟩
  · exact ⟨[.s], rfl, by decide, by decide, rfl⟩
  · exact ⟨[], rfl, by decide, by decide, rfl⟩
theorem cps_small {m' : api_Msg} : ∀ (l : List Lt) {m : api_Msg}, m'.Names_.length ≤ 9223372036854775807 → m'.Qids_.length ≤ 9223372036854775807 → m.Names_.length ≤ 9223372036854775807 → m.Qids_.length ≤ 9223372036854775807 → (cps l m' m).Names_.length ≤ 9223372036854775807 ∧ (cps l m' m).Qids_.length ≤ 9223372036854775807
  | [], _, _, _, h3, h4 => ⟨h3, h4⟩
  | k :: l, m, h1, h2, h3, h4 => by
    show (cps l m' (cpF k m' m)).Names_.length ≤ _ ∧ _
    refine cps_small l h1 h2 ?_ ?_
    · cases k <;> first | exact h3 | exact h1
    · cases k <;> first | exact h4 | exact h2
theorem check_some (m : api_Msg) (h : m.small) : ∃ c, msg_Check m = some c := by
  apply Option.get_some
  unfold msg_Check
  refine some_bind (name_some _) fun t ht => some_ite (fun _ => rfl) fun hn => ?_
  obtain ⟨l, _, _, _, ho⟩ := lay_only m ht (by simp at hn; exact hn)
  refine some_bind (tagged_some m) fun _ _ => some_ite (fun _ => rfl) fun _ => some_bind (by rw [ho]; rfl) fun x hx => ?_
  have hx' : x.Names_.length ≤ 9223372036854775807 ∧ x.Qids_.length ≤ 9223372036854775807 := by
    rw [ho] at hx
    cases hx
    exact cps_small l h.1 h.2.2.1 (by simp [zeroM]) (by simp [zeroM])
  refine some_bind (by rw [same_eq x m hx'.1 hx'.2]; rfl) fun _ _ => some_ite (fun _ => rfl) fun _ => some_bind (fields_some m h) fun _ _ => rfl
end Go.Proofs.YtboplmpnjepdnaaGreat

/-
  Plain laws: the fields of messages, written. No program in sight.
-/
namespace Go.Proofs.YtboplmpnjepdnaaGreat
open Go.Rt Go.RowKit

theorem wadd (w t : Str) (e : Int) (h : w.length + t.length ≤ 9223372036854775807) : wire_writer_add ⟨w, 0⟩ t e = some ⟨w ++ t, e⟩ := by
  unfold wire_writer_add
  exact cond_t rfl (bind_eq (cat_eq h) rfl)
theorem encN_some {n : Int} {k : Nat} {t : Str} (h : encN n k = some t) : fitsW n k = true ∧ t = leB n k := by
  unfold encN at h
  cases hf : fitsW n k with
  | true => rw [hf] at h; exact ⟨rfl, (Option.some.inj h).symm⟩
  | false => rw [hf] at h; cases h
theorem wnum {w : Str} {n : Int} {k : Nat} {t : Str} (h1 : 1 ≤ k) (h8 : k ≤ 8) (he : encN n k = some t) (h : w.length + t.length ≤ 9223372036854775807) : wire_writer_number ⟨w, 0⟩ n (k : Int) = some ⟨w ++ t, 0⟩ := by
  obtain ⟨a, rfl⟩ := encN_some he
  unfold wire_writer_number
  refine bind_eq (octet_put_all n k h1 h8) ?_
  rw [if_pos a]
  exact bind_eq (wadd w _ 0 h) rfl
theorem encT_some {s t : Str} (h : encT s = some t) : s.length ≤ 65535 ∧ t = textB s := by
  unfold encT at h
  split at h
  · exact ⟨‹_›, (Option.some.inj h).symm⟩
  · cases h
theorem wtext {w s t : Str} (he : encT s = some t) (h : w.length + t.length ≤ 9223372036854775807) : wire_writer_text ⟨w, 0⟩ s = some ⟨w ++ t, 0⟩ := by
  obtain ⟨a, rfl⟩ := encT_some he
  unfold wire_writer_text
  exact bind_eq (text_put s a) (bind_eq (wadd w _ 0 h) rfl)
theorem encQ_some {q : api_Qid} {t : Str} (h : encQ q = some t) : fitsW q.Type_ 1 = true ∧ fitsW q.Vers_ 4 = true ∧ fitsW q.Path_ 8 = true ∧ t = leB q.Type_ 1 ++ leB q.Vers_ 4 ++ leB q.Path_ 8 := by
  unfold encQ at h
  split at h
  · rename_i hc
    simp only [Bool.and_eq_true] at hc
    exact ⟨hc.1.1, hc.1.2, hc.2, (Option.some.inj h).symm⟩
  · cases h
theorem wqid {w : Str} {q : api_Qid} {t : Str} (he : encQ q = some t) (h : w.length + t.length ≤ 9223372036854775807) : wire_writer_qid ⟨w, 0⟩ q = some ⟨w ++ t, 0⟩ := by
  obtain ⟨a, b, c, rfl⟩ := encQ_some he
  simp only [List.length_append] at h
  unfold wire_writer_qid
  refine bind_eq (wnum (k := 1) (t := leB q.Type_ 1) (by omega) (by omega) (by unfold encN; rw [if_pos a]) (by omega)) ?_
  refine bind_eq (wnum (k := 4) (t := leB q.Vers_ 4) (by omega) (by omega) (by unfold encN; rw [if_pos b]) (by simp only [List.length_append]; omega)) ?_
  refine bind_eq (wnum (k := 8) (t := leB q.Path_ 8) (by omega) (by omega) (by unfold encN; rw [if_pos c]) (by simp only [List.length_append]; omega)) ?_
  simp only [List.append_assoc]
theorem encs_cons {α : Type} {f : α → Option Str} {x : α} {l : List α} {t : Str} (h : encs f (x :: l) = some t) : ∃ a b, f x = some a ∧ encs f l = some b ∧ t = a ++ b := by
  unfold encs at h
  cases hx : f x with
  | none => rw [hx] at h; cases h
  | some a =>
    cases hl : encs f l with
    | none => rw [hx, hl] at h; cases h
    | some b => rw [hx, hl] at h; exact ⟨a, b, rfl, rfl, (Option.some.inj h).symm⟩
theorem wnames_loop (l : List Str) (hl : l.length ≤ 65535) : ∀ (k fuel i : Nat) (w t : Str), i + k = l.length → k < fuel → encs encT (l.drop i) = some t → w.length + t.length ≤ 9223372036854775807 → loopF (wire_writer_names_L1 l) fuel ((i : Int), ⟨w, 0⟩) = some ⟨w ++ t, 0⟩
  | 0, fuel + 1, i, w, t, hi, _, he, _ => by
    rw [show l.drop i = [] from List.drop_eq_nil_of_le (by omega)] at he
    cases he
    refine loop_done ?_
    unfold wire_writer_names_L1
    exact cond_f (by simp; omega) (by simp)
  | k + 1, fuel + 1, i, w, t, hi, hk, he, h => by
    have hlt : i < l.length := by omega
    rw [List.drop_eq_getElem_cons hlt] at he
    obtain ⟨a, b, h1, h2, rfl⟩ := encs_cons he
    simp only [List.length_append] at h
    have ih := wnames_loop l hl k fuel (i + 1) (w ++ a) b (by omega) (by omega) h2 (by simp only [List.length_append]; omega)
    rw [List.append_assoc] at ih
    refine loop_next ?_ ih
    unfold wire_writer_names_L1
    refine cond_t (by simp; omega) (bind_eq (getI_lt hlt) (bind_eq (wtext h1 (by omega)) ?_))
    rw [w64_eq (n := (i : Int) + 1) ⟨by omega, by omega⟩]; rfl
theorem wqids_loop (l : List api_Qid) (hl : l.length ≤ 65535) : ∀ (k fuel i : Nat) (w t : Str), i + k = l.length → k < fuel → encs encQ (l.drop i) = some t → w.length + t.length ≤ 9223372036854775807 → loopF (wire_writer_qids_L1 l) fuel ((i : Int), ⟨w, 0⟩) = some ⟨w ++ t, 0⟩
  | 0, fuel + 1, i, w, t, hi, _, he, _ => by
    rw [show l.drop i = [] from List.drop_eq_nil_of_le (by omega)] at he
    cases he
    refine loop_done ?_
    unfold wire_writer_qids_L1
    exact cond_f (by simp; omega) (by simp)
  | k + 1, fuel + 1, i, w, t, hi, hk, he, h => by
    have hlt : i < l.length := by omega
    rw [List.drop_eq_getElem_cons hlt] at he
    obtain ⟨a, b, h1, h2, rfl⟩ := encs_cons he
    simp only [List.length_append] at h
    have ih := wqids_loop l hl k fuel (i + 1) (w ++ a) b (by omega) (by omega) h2 (by simp only [List.length_append]; omega)
    rw [List.append_assoc] at ih
    refine loop_next ?_ ih
    unfold wire_writer_qids_L1
    refine cond_t (by simp; omega) (bind_eq (getI_lt hlt) (bind_eq (wqid h1 (by omega)) ?_))
    rw [w64_eq (n := (i : Int) + 1) ⟨by omega, by omega⟩]; rfl
theorem encL_some {α : Type} {f : α → Option Str} {l : List α} {t : Str} (h : encL f l = some t) : l.length ≤ 65535 ∧ ∃ b, encs f l = some b ∧ t = leB (l.length : Int) 2 ++ b := by
  unfold encL at h
  split at h
  · rename_i hc
    refine ⟨hc, ?_⟩
    cases hl : encs f l with
    | none => rw [hl] at h; cases h
    | some b => rw [hl] at h; exact ⟨b, rfl, (Option.some.inj h).symm⟩
  · cases h
theorem len_enc (n : Nat) (h : n ≤ 65535) : encN (n : Int) 2 = some (leB (n : Int) 2) := by
  have : fitsW (n : Int) 2 = true := by
    unfold fitsW
    simp only [Bool.and_eq_true, Bool.or_eq_true, decide_eq_true_eq]
    exact ⟨by omega, .inr (by omega)⟩
  unfold encN; rw [if_pos this]
theorem wnames {w : Str} {l : List Str} {t : Str} (he : encL encT l = some t) (h : w.length + t.length ≤ 9223372036854775807) : wire_writer_names ⟨w, 0⟩ l = some ⟨w ++ t, 0⟩ := by
  obtain ⟨hl, b, h1, rfl⟩ := encL_some he
  simp only [List.length_append] at h
  unfold wire_writer_names
  have hB : BIG = 18446744073709551616 := rfl
  refine bind_eq (wnum (k := 2) (by omega) (by omega) (len_enc _ hl) (by omega)) ?_
  refine bind_eq (wnames_loop l hl l.length BIG 0 _ b (by omega) (by omega) h1 (by simp only [List.length_append]; omega)) ?_
  simp only [List.append_assoc]
theorem wqids {w : Str} {l : List api_Qid} {t : Str} (he : encL encQ l = some t) (h : w.length + t.length ≤ 9223372036854775807) : wire_writer_qids ⟨w, 0⟩ l = some ⟨w ++ t, 0⟩ := by
  obtain ⟨hl, b, h1, rfl⟩ := encL_some he
  simp only [List.length_append] at h
  unfold wire_writer_qids
  have hB : BIG = 18446744073709551616 := rfl
  refine bind_eq (wnum (k := 2) (by omega) (by omega) (len_enc _ hl) (by omega)) ?_
  refine bind_eq (wqids_loop l hl l.length BIG 0 _ b (by omega) (by omega) h1 (by simp only [List.length_append]; omega)) ?_
  simp only [List.append_assoc]
theorem encD_some {s t : Str} {k : Nat} (h : encD s k = some t) : fitsW (s.length : Int) k = true ∧ t = leB (s.length : Int) k ++ s := by
  unfold encD at h
  split at h
  · exact ⟨‹_›, (Option.some.inj h).symm⟩
  · cases h
theorem wdata {w s t : Str} {k : Nat} (h1 : 1 ≤ k) (h8 : k ≤ 8) (he : encD s k = some t) (h : w.length + t.length ≤ 9223372036854775807) : wire_writer_data ⟨w, 0⟩ s (k : Int) = some ⟨w ++ t, 0⟩ := by
  obtain ⟨a, rfl⟩ := encD_some he
  simp only [List.length_append] at h
  unfold wire_writer_data
  refine bind_eq (wnum (t := leB (s.length : Int) k) h1 h8 (by unfold encN; rw [if_pos a]) (by omega)) (bind_eq (wadd _ _ 0 (by simp only [List.length_append]; omega)) ?_)
  simp only [List.append_assoc]
theorem okIn_in {n m : Int} (h : okIn n m = true) (hm : m ≤ 9223372036854775807) : InK .i64 n := by
  unfold okIn at h
  simp only [Bool.or_eq_true, Bool.and_eq_true, beq_iff_eq, decide_eq_true_eq] at h
  exact ⟨by show -9223372036854775808 ≤ n; omega, by show n ≤ 9223372036854775807; omega⟩
theorem andI_le (x : Int) (m : Nat) (hm : m < 2 ^ 63) (h0 : 0 ≤ x) (h : andI .i64 x (m : Int) = x) : x ≤ (m : Int) := by
  have hx : x ≤ 9223372036854775807 := by
    have hw : ∀ n : Int, IntKind.i64.wrap n ≤ 9223372036854775807 := by
      intro n
      simp only [IntKind.wrap, IntKind.bits, IntKind.signed]
      simp
      split <;> omega
    have hx : andI .i64 x (m : Int) ≤ 9223372036854775807 := hw _
    rw [h] at hx
    exact hx
  have := bits_in x m hm hx (by unfold okBits; simp only [Bool.or_eq_true, Bool.and_eq_true, beq_iff_eq, decide_eq_true_eq]; exact .inr ⟨h0, h⟩)
  unfold okIn at this
  simp only [Bool.or_eq_true, Bool.and_eq_true, beq_iff_eq, decide_eq_true_eq] at this
  omega
theorem okBits_in {x : Int} {m : Nat} (hm : m < 2 ^ 63) (h : okBits x (m : Int) = true) : InK .i64 x := by
  unfold okBits at h
  simp only [Bool.or_eq_true, Bool.and_eq_true, beq_iff_eq, decide_eq_true_eq] at h
  rcases h with h | ⟨h0, h⟩
  · exact ⟨by show -9223372036854775808 ≤ x; omega, by show x ≤ 9223372036854775807; omega⟩
  · have := andI_le x m hm h0 h
    exact ⟨by show -9223372036854775808 ≤ x; omega, by show x ≤ 9223372036854775807; omega⟩
theorem checkR_ok {d : api_Dir} (h : checkR d = 0) : d.ok := by
  obtain ⟨h1, h2⟩ := checkR_zero d h
  obtain ⟨l1, l2, l3, l4⟩ := texts_len d h2
  unfold okNums at h1
  simp only [Bool.and_eq_true] at h1
  obtain ⟨⟨⟨⟨⟨⟨⟨⟨a, b⟩, c⟩, e⟩, f⟩, g⟩, i⟩, j⟩, k⟩ := h1
  exact ⟨okIn_in a (by omega), okIn_in b (by omega), ⟨okBits_in (m := 232) (by omega) c, okIn_in e (by omega), okIn_in f (by omega)⟩, okBits_in (m := 3892314623) (by omega) g, okIn_in i (by omega), okIn_in j (by omega), okIn_in k (by omega), by omega, by omega, by omega, by omega⟩
theorem encS_some {d : api_Dir} {t : Str} (h : encS d = some t) : checkR d = 0 ∧ t = leB ((putB d).length : Int) 2 ++ putB d := by
  unfold encS at h
  split at h
  · exact ⟨‹_›, (Option.some.inj h).symm⟩
  · cases h
theorem wstat {w : Str} {d : api_Dir} {t : Str} (he : encS d = some t) (h : w.length + t.length ≤ 9223372036854775807) : wire_writer_stat ⟨w, 0⟩ d = some ⟨w ++ t, 0⟩ := by
  obtain ⟨a, rfl⟩ := encS_some he
  have hok := checkR_ok a
  obtain ⟨l1, l2, l3, l4⟩ := texts_len d (checkR_zero d a).2
  have hlen := putB_len d
  unfold wire_writer_stat
  refine bind_eq (put_eq d hok hok.2.2.2.2.2.2.2.1) ?_
  unfold putR
  rw [if_pos a]
  refine bind_eq (wadd w [] 0 (by simp only [List.length_append] at h; simp; omega)) (bind_eq (wdata (k := 2) (t := leB ((putB d).length : Int) 2 ++ putB d) (by omega) (by omega) ?_ ?_) ?_)
  · unfold encD
    rw [if_pos]
    unfold fitsW
    simp only [Bool.and_eq_true, Bool.or_eq_true, decide_eq_true_eq]
    exact ⟨by omega, .inr (by omega)⟩
  · simpa using h
  · simp
theorem wfault {w : Str} {n : Int} {t : Str} (he : encT (faultT n) = some t) (h : w.length + t.length ≤ 9223372036854775807) : Option.bind (fault_Text n) (fun y => wire_writer_text ⟨w, 0⟩ y) = some ⟨w ++ t, 0⟩ :=
  bind_eq (fault_text n) (wtext he h)
/-- A field is written. -/
theorem wfield (k : Lt) (m : api_Msg) (w t : Str) (he : encF k m = some t) (h : w.length + t.length ≤ 9223372036854775807) : wire_writer_field ⟨w, 0⟩ m (k.byte : Int) = some ⟨w ++ t, 0⟩ := by
  unfold wire_writer_field
  cases k with
  | m => exact bind_eq (wnum (k := 4) (by omega) (by omega) he h) rfl
  | v => exact bind_eq (wtext he h) rfl
  | s => exact bind_eq (wtext he h) rfl
  | a => exact bind_eq (wnum (k := 4) (by omega) (by omega) he h) rfl
  | u => exact bind_eq (wtext he h) rfl
  | x => exact bind_eq (wtext he h) rfl
  | q => exact bind_eq (wqid he h) rfl
  | f => exact bind_eq (wnum (k := 4) (by omega) (by omega) he h) rfl
  | e => exact bind_eq (fault_text m.Err_) (bind_eq (wtext he h) rfl)
  | o => exact bind_eq (wnum (k := 2) (by omega) (by omega) he h) rfl
  | n => exact bind_eq (wnum (k := 4) (by omega) (by omega) he h) rfl
  | w => exact bind_eq (wnames he h) rfl
  | W => exact bind_eq (wqids he h) rfl
  | M => exact bind_eq (wnum (k := 1) (by omega) (by omega) he h) rfl
  | i => exact bind_eq (wnum (k := 4) (by omega) (by omega) he h) rfl
  | N => exact bind_eq (wtext he h) rfl
  | p => exact bind_eq (wnum (k := 4) (by omega) (by omega) he h) rfl
  | O => exact bind_eq (wnum (k := 8) (by omega) (by omega) he h) rfl
  | c => exact bind_eq (wnum (k := 4) (by omega) (by omega) he h) rfl
  | d => exact bind_eq (wdata (k := 4) (by omega) (by omega) he h) rfl
  | S => exact bind_eq (wstat he h) rfl
  | l => exact bind_eq (wnum (k := 1) (by omega) (by omega) he h) rfl
  | t => exact bind_eq (wnum (k := 4) (by omega) (by omega) he h) rfl
end Go.Proofs.YtboplmpnjepdnaaGreat

/-
  Plain laws: a message read, and written again. No program in sight.
-/
namespace Go.Proofs.YtboplmpnjepdnaaGreat
open Go.Rt Go.RowKit

/-- Where a reader stands. -/
def RS (y : Str) (r : wire_reader) : Prop := r.s_ = y ∧ (r.ok_ = true → ∃ p : Nat, r.at_ = (p : Int) ∧ p ≤ y.length)
/-- A reader's step over bytes that t says. -/
def St (y : Str) (r r' : wire_reader) (t : Option Str) : Prop := r'.s_ = y ∧ (r'.ok_ = true → r.ok_ = true ∧ ∃ p p' : Nat, r.at_ = (p : Int) ∧ r'.at_ = (p' : Int) ∧ p ≤ p' ∧ p' ≤ y.length ∧ t = some (win y p (p' - p)))
def app2 (a b : Option Str) : Option Str := match a, b with
  | some a, some b => some (a ++ b)
  | _, _ => none
theorem St.rs {y : Str} {r r' : wire_reader} {t : Option Str} (h : St y r r' t) : RS y r' :=
  ⟨h.1, fun ho => let ⟨_, _, p', _, h2, _, h4, _⟩ := h.2 ho; ⟨p', h2, h4⟩⟩
theorem St.zero {y : Str} {r : wire_reader} (h : RS y r) : St y r r (some []) :=
  ⟨h.1, fun ho => let ⟨p, h1, h2⟩ := h.2 ho; ⟨ho, p, p, h1, h1, Nat.le_refl _, h2, by simp [win]⟩⟩
theorem St.comp {y : Str} {r r1 r2 : wire_reader} {t u : Option Str} (h : St y r r1 t) (h' : St y r1 r2 u) : St y r r2 (app2 t u) := by
  refine ⟨h'.1, fun ho => ?_⟩
  obtain ⟨o1, p1, p2, a1, a2, a3, a4, rfl⟩ := h'.2 ho
  obtain ⟨o0, p0, p1', b1, b2, b3, b4, rfl⟩ := h.2 o1
  have : p1' = p1 := by omega
  subst this
  exact ⟨o0, p0, p2, b1, a2, by omega, a4, congrArg some (win_join y p0 (p1' - p0) (p2 - p1') p1' (p2 - p0) (by omega) (by omega))⟩
theorem Rd.st {α : Type} {y : Str} {a : Nat} {enc : α → Option Str} {x : α} {r : wire_reader} (h : Rd y a enc x r) : St y ⟨y, (a : Int), true⟩ r (enc x) := by
  refine ⟨h.1, fun ho => ?_⟩
  rcases h.2 with ⟨_, p, h2, h3, h4, h5⟩ | h2
  · exact ⟨rfl, a, p, rfl, h2, h3, h4, h5⟩
  · rw [h2] at ho; cases ho
theorem reader_eq2 {y : Str} {r : wire_reader} (h : RS y r) (ho : r.ok_ = true) : ∃ p : Nat, r = ⟨y, (p : Int), true⟩ ∧ p ≤ y.length := by
  obtain ⟨p, h1, h2⟩ := h.2 ho
  exact ⟨p, reader_eq h.1 h1 ho, h2⟩
theorem nstep {y : Str} {r : wire_reader} (w : Nat) (h1 : 1 ≤ w) (h8 : w ≤ 8) (h : RS y r) (hs : y.length ≤ 1000000) : ∃ n r', wire_reader_number r (w : Int) = some (n, r') ∧ St y r r' (encN n w) := by
  cases ho : r.ok_ with
  | true =>
    obtain ⟨p, rfl, hp⟩ := reader_eq2 h ho
    obtain ⟨n, r', e1, e2⟩ := rnumR y p w h1 h8 hp hs
    exact ⟨n, r', e1, e2.st⟩
  | false =>
    obtain ⟨n, e1⟩ := xnum_no r ho (w : Int)
    exact ⟨n, r, e1, h.1, fun h' => by rw [ho] at h'; cases h'⟩
theorem fstep {y : Str} {r : wire_reader} (k : Lt) (m : api_Msg) (h : RS y r) (hs : y.length ≤ 1000000) : ∃ m' r', wire_reader_field r m (k.byte : Int) = some (r', cpF k m' m) ∧ St y r r' (encF k m') := by
  cases ho : r.ok_ with
  | true =>
    obtain ⟨p, rfl, hp⟩ := reader_eq2 h ho
    obtain ⟨m', r', e1, e2⟩ := rfield k y p m hp hs
    exact ⟨m', r', e1, e2.st⟩
  | false =>
    obtain ⟨m', e1⟩ := rfield_no k r ho m
    exact ⟨m', r, e1, h.1, fun h' => by rw [ho] at h'; cases h'⟩
/-! ### Small messages -/
theorem encs_all {α : Type} {f : α → Option Str} : ∀ {l : List α} {t : Str}, encs f l = some t → ∀ x ∈ l, ∃ a, f x = some a
  | [], _, _, x, hx => by cases hx
  | y :: l, t, h, x, hx => by
    obtain ⟨a, b, h1, h2, _⟩ := encs_cons h
    cases hx with
    | head => exact ⟨a, h1⟩
    | tail _ hx => exact encs_all h2 x hx
theorem small_cp {k : Lt} {m' m : api_Msg} {t : Str} (h : m.small) (he : encF k m' = some t) : (cpF k m' m).small := by
  obtain ⟨h1, h2, h3, h4, h5⟩ := h
  cases k with
  | w =>
    obtain ⟨l1, b, l2, _⟩ := encL_some (f := encT) he
    exact ⟨by show m'.Names_.length ≤ _; omega, fun s hs => by obtain ⟨a, ha⟩ := encs_all l2 s hs; have := (encT_some ha).1; omega, h3, h4, h5⟩
  | W =>
    obtain ⟨l1, b, l2, _⟩ := encL_some (f := encQ) he
    exact ⟨h1, h2, by show m'.Qids_.length ≤ _; omega, h4, h5⟩
  | N => exact ⟨h1, h2, h3, by have := (encT_some (s := m'.Name_) he).1; show m'.Name_.length ≤ _; omega, h5⟩
  | S => exact ⟨h1, h2, h3, h4, checkR_ok (encS_some (d := m'.Stat_) he).1⟩
  | _ => exact ⟨h1, h2, h3, h4, h5⟩
/-! ### All the fields -/
def encA (l : List Lt) (m : api_Msg) : Option Str := encs (fun k => encF k m) l
theorem encA_cons (k : Lt) (l : List Lt) (m : api_Msg) : encA (k :: l) m = app2 (encF k m) (encA l m) := by
  unfold encA app2
  rw [encs]
  rfl
theorem layB_len (l : List Lt) : (layB l).length = l.length := by simp [layB]
theorem layB_byte (l : List Lt) (i : Nat) (h : i < l.length) : byteI (layB l) (i : Int) = some (l[i].byte : Int) := by
  rw [byteI_lt (by rw [layB_len]; exact h)]
  simp [layB, Lt.b8_nat]
theorem gloop (y : Str) (hs : y.length ≤ 1000000) (L : List Lt) (hL : L.length ≤ 100) : ∀ (l : List Lt) (fuel i : Nat) (r : wire_reader) (m : api_Msg), L.drop i = l → i + l.length = L.length → l.Nodup → l.length < fuel → RS y r →
    ∃ mf r', loopF (wire_Get_L1 (layB L)) fuel ((i : Int), r, m) = some (r', mf) ∧ St y r r' (encA l mf) ∧ mf.Kind_ = m.Kind_ ∧ mf.Tag_ = m.Tag_ ∧ (∀ k, k ∉ l → encF k mf = encF k m) ∧ (r'.ok_ = true → m.small → mf.small)
  | [], 0, i, r, m, hd, hi, _, hf, h => absurd hf (Nat.not_lt_zero _)
  | _ :: _, 0, i, r, m, hd, hi, _, hf, h => absurd hf (Nat.not_lt_zero _)
  | [], fuel + 1, i, r, m, hd, hi, _, _, h => by
    have hb : wire_Get_L1 (layB L) ((i : Int), r, m) = some (.done (r, m)) := by
      unfold wire_Get_L1
      simp only [List.length_nil] at hi
      exact cond_f (by rw [layB_len]; simp; omega) rfl
    have hz : St y r r (encA [] m) := St.zero h
    exact ⟨m, r, loop_done hb, hz, rfl, rfl, fun _ _ => rfl, fun _ h => h⟩
  | k :: l, fuel + 1, i, r, m, hd, hi, hn, hf, h => by
    simp only [List.length_cons] at hi hf
    have hlt : i < L.length := by omega
    rw [List.drop_eq_getElem_cons hlt] at hd
    simp only [List.cons.injEq] at hd
    obtain ⟨hk, hd⟩ := hd
    obtain ⟨hn1, hn2⟩ := List.nodup_cons.1 hn
    obtain ⟨m', r1, e1, s1⟩ := fstep k m h hs
    obtain ⟨mf, r', e2, s2, k1, k2, k3, k4⟩ := gloop y hs L hL l fuel (i + 1) r1 (cpF k m' m) hd (by omega) hn2 (by omega) s1.rs
    have ek : encF k mf = encF k m' := by rw [k3 k hn1, encF_cp]
    refine ⟨mf, r', loop_next ?_ e2, ?_, ?_, ?_, fun k' h' => ?_, fun ho hm => ?_⟩
    · unfold wire_Get_L1
      refine cond_t (by rw [layB_len]; simp; omega) (bind_eq (layB_byte L i hlt) ?_)
      rw [hk]
      refine bind_eq e1 ?_
      rw [w64_eq (n := (i : Int) + 1) ⟨by omega, by omega⟩]; rfl
    · rw [encA_cons, ek]; exact s1.comp s2
    · rw [k1, (cp_kind k m' m).1]
    · rw [k2, (cp_kind k m' m).2]
    · simp only [List.mem_cons, not_or] at h'
      rw [k3 k' h'.2, encF_other k' k h'.1]
    · obtain ⟨o1, _⟩ := s2.2 ho
      obtain ⟨_, p, p', _, _, _, _, ht⟩ := s1.2 o1
      exact k4 ho (small_cp hm ht)
/-- A message that was read from y. -/
def Good (m : api_Msg) (y : Str) : Prop := m.small ∧ msg_Check m = some 0 ∧ leV (win y 0 4) = y.length ∧ 7 ≤ y.length ∧ y.length ≤ 8192 ∧ ∃ l, wire_layout m.Kind_ = some (layB l) ∧ l.length ≤ 100 ∧ app2 (encN m.Kind_ 1) (app2 (encN m.Tag_ 2) (encA l m)) = some (win y 4 (y.length - 4))
theorem zero_small (k t : Int) : (zeroM k t).small := ⟨by simp [zeroM], by simp [zeroM], by simp [zeroM], by simp [zeroM], checkR_ok (d := zeroDir) (by kernel_rfl)⟩
theorem get_none (s : Str) (a : Int) (h : a < 0 ∨ a > s.length) : octet_Get s a 4 = some (0, 0, 1) := by
  unfold octet_Get
  refine cond_t ?_ rfl
  simp only [Bool.or_eq_true, decide_eq_true_eq]
  omega
/-- Reading: an error, or a message that its bytes say. -/
theorem get_fwd (s : Str) (a : Int) (hs : s.length ≤ 1000000) : ∃ m n e, wire_Get s a = some (m, n, e) ∧ ((e ≠ 0 ∧ n = 0) ∨ (e = 0 ∧ ∃ A z : Nat, a = (A : Int) ∧ n = ((A + z : Nat) : Int) ∧ A + z ≤ s.length ∧ z = (win s A z).length ∧ Good m (win s A z))) := by
  unfold wire_Get
  by_cases ha : a < 0 ∨ a > s.length
  · exact ⟨_, _, _, bind_eq (get_none s a ha) rfl, .inl ⟨by decide, rfl⟩⟩
  obtain ⟨A, rfl⟩ : ∃ A : Nat, a = (A : Int) := ⟨a.toNat, by omega⟩
  have hA : A ≤ s.length := by omega
  have e0 := get_eq s A 4 (by omega) (by omega) hA (by omega)
  rw [show ((4 : Nat) : Int) = 4 from rfl] at e0
  by_cases c1 : s.length - A < 4
  · rw [if_pos c1] at e0
    exact ⟨_, _, _, bind_eq e0 rfl, .inl ⟨by decide, rfl⟩⟩
  rw [if_neg c1] at e0
  by_cases c2 : leV (win s A 4) > 9223372036854775807
  · rw [if_pos c2] at e0
    exact ⟨_, _, _, bind_eq e0 rfl, .inl ⟨by decide, rfl⟩⟩
  rw [if_neg c2] at e0
  generalize hz : leV (win s A 4) = z at e0 c2
  by_cases c3 : z > 8192
  · exact ⟨_, _, _, bind_eq e0 (cond_f rfl (cond_t (by simp; omega) rfl)), .inl ⟨by decide, rfl⟩⟩
  by_cases c4 : z < 7
  · exact ⟨_, _, _, bind_eq e0 (cond_f rfl (cond_f (by simp; omega) (cond_t (by simp; omega) rfl))), .inl ⟨by decide, rfl⟩⟩
  have el : w64 ((s.length : Int) - (A : Int)) = ((s.length - A : Nat) : Int) := by rw [w64_eq ⟨by omega, by omega⟩]; omega
  by_cases c5 : z > s.length - A
  · exact ⟨_, _, _, bind_eq e0 (cond_f rfl (cond_f (by simp; omega) (cond_f (by simp; omega) (cond_t (by rw [el]; simp; omega) rfl)))), .inl ⟨by decide, rfl⟩⟩
  have e1 := win_sub s A z (by omega) (by omega)
  have hy : (win s A z).length = z := win_len (by omega)
  generalize hy' : win s A z = y at e1 hy
  have r0 : RS y ⟨y, ((4 : Nat) : Int), true⟩ := ⟨rfl, fun _ => ⟨4, rfl, by omega⟩⟩
  obtain ⟨kd, r1, e2, s1⟩ := nstep 1 (by omega) (by omega) r0 (by omega)
  obtain ⟨tg, r2, e3, s2⟩ := nstep 2 (by omega) (by omega) s1.rs (by omega)
  obtain ⟨L, e4, hn, hL⟩ := lay_any kd
  have hB : BIG = 18446744073709551616 := rfl
  obtain ⟨mf, r3, e5, s3, k1, k2, _, k4⟩ := gloop y (by omega) L hL L BIG 0 r2 (zeroM kd tg) rfl (by omega) hn (by omega) s2.rs
  obtain ⟨nm, e6⟩ := Option.get_some (name_some mf.Kind_)
  have h3 : decide ((z : Int) > 8192) = false := by simp; omega
  have h4 : decide ((z : Int) < 7) = false := by simp; omega
  have h5 : decide ((z : Int) > w64 ((s.length : Int) - (A : Int))) = false := by rw [el]; simp; omega
  cases c6 : (((nm == []) || (!r3.ok_)) || (r3.at_ != (z : Int))) with
  | true => exact ⟨_, _, _, bind_eq e0 (cond_f rfl (cond_f h3 (cond_f h4 (cond_f h5 (bind_eq e1 (bind_eq e2 (bind_eq e3 (bind_eq e4 (bind_eq e5 (bind_eq e6 (cond_t c6 rfl))))))))))), .inl ⟨by decide, rfl⟩⟩
  | false =>
    have c6' := c6
    simp only [Bool.or_eq_false_iff, Bool.not_eq_false', bne_eq_false_iff_eq] at c6
    obtain ⟨⟨_, ho⟩, hz2⟩ := c6
    have hsm := k4 ho (zero_small kd tg)
    obtain ⟨c, e7⟩ := check_some mf hsm
    by_cases hc : c = 0
    · subst hc
      have hyz : y = win s A z := hy'.symm
      clear hy'
      subst hyz
      refine ⟨_, _, _, bind_eq e0 (cond_f rfl (cond_f h3 (cond_f h4 (cond_f h5 (bind_eq e1 (bind_eq e2 (bind_eq e3 (bind_eq e4 (bind_eq e5 (bind_eq e6 (cond_f c6' (bind_eq e7 (cond_f rfl rfl))))))))))))), .inr ⟨rfl, A, z, rfl, ?_, by omega, by omega, hsm, e7, ?_, by omega, by omega, L, ?_, hL, ?_⟩⟩
      · rw [w64_eq ⟨by omega, by omega⟩]; omega
      · have hw : win (win s A z) 0 4 = win s A 4 := by
          simp only [win, List.drop_zero, List.take_take]
          congr 1
          omega
        rw [hw, hz, hy]
      · rw [k1]; exact e4
      · have hst := s1.comp (s2.comp s3)
        obtain ⟨_, p, p', q1, q2, q3, q4, q5⟩ := hst.2 ho
        have hp : p = 4 := by have : ((4 : Nat) : Int) = (p : Int) := q1; omega
        have hp' : p' = (win s A z).length := by omega
        rw [k1, k2]
        subst hp hp'
        exact q5
    · have hc' : (c != 0) = true := by simpa using hc
      exact ⟨_, _, _, bind_eq e0 (cond_f rfl (cond_f h3 (cond_f h4 (cond_f h5 (bind_eq e1 (bind_eq e2 (bind_eq e3 (bind_eq e4 (bind_eq e5 (bind_eq e6 (cond_f c6' (bind_eq e7 (cond_t hc' rfl))))))))))))), .inl ⟨hc, rfl⟩⟩
end Go.Proofs.YtboplmpnjepdnaaGreat

/-
  Plain laws: a message written; what was read is written as its bytes. No program in sight.
-/
namespace Go.Proofs.YtboplmpnjepdnaaGreat
open Go.Rt Go.RowKit

theorem app2_some {a b : Option Str} {t : Str} (h : app2 a b = some t) : ∃ x y, a = some x ∧ b = some y ∧ t = x ++ y := by
  cases a with
  | none => cases h
  | some x =>
    cases b with
    | none => cases h
    | some y => exact ⟨x, y, rfl, rfl, (Option.some.inj h).symm⟩
theorem wput_loop (m : api_Msg) (L : List Lt) (hL : L.length ≤ 100) : ∀ (k fuel i : Nat) (w t : Str), i + k = L.length → k < fuel → encA (L.drop i) m = some t → w.length + t.length ≤ 9223372036854775807 → loopF (wire_Put_L1 (layB L) m) fuel ((i : Int), ⟨w, 0⟩) = some ⟨w ++ t, 0⟩
  | 0, fuel + 1, i, w, t, hi, _, he, _ => by
    rw [show L.drop i = [] from List.drop_eq_nil_of_le (by omega)] at he
    cases he
    refine loop_done ?_
    unfold wire_Put_L1
    exact cond_f (by rw [layB_len]; simp; omega) (by simp)
  | k + 1, fuel + 1, i, w, t, hi, hk, he, h => by
    have hlt : i < L.length := by omega
    rw [List.drop_eq_getElem_cons hlt, encA_cons] at he
    obtain ⟨a, b, h1, h2, rfl⟩ := app2_some he
    simp only [List.length_append] at h
    have ih := wput_loop m L hL k fuel (i + 1) (w ++ a) b (by omega) (by omega) h2 (by simp only [List.length_append]; omega)
    rw [List.append_assoc] at ih
    refine loop_next ?_ ih
    unfold wire_Put_L1
    refine cond_t (by rw [layB_len]; simp; omega) (bind_eq (layB_byte L i hlt) (bind_eq (wfield _ m w a h1 (by omega)) ?_))
    rw [w64_eq (n := (i : Int) + 1) ⟨by omega, by omega⟩]; rfl
theorem fits4 (n : Nat) (h : n ≤ 4294967295) : fitsW (n : Int) 4 = true := by
  unfold fitsW
  simp only [Bool.and_eq_true, Bool.or_eq_true, decide_eq_true_eq]
  exact ⟨by omega, .inr (by omega)⟩
/-- What is written. -/
theorem put_fwd (m : api_Msg) (L : List Lt) (t : Str) (hc : msg_Check m = some 0) (hl : wire_layout m.Kind_ = some (layB L)) (hL : L.length ≤ 100) (he : app2 (encN m.Kind_ 1) (app2 (encN m.Tag_ 2) (encA L m)) = some t) (ht : t.length ≤ 1152921504606846976) :
    wire_Put m = some (if t.length + 4 ≤ 8192 then (leB ((t.length + 4 : Nat) : Int) 4 ++ t, 0) else ([], 4)) := by
  obtain ⟨t1, u, h1, hu, rfl⟩ := app2_some he
  obtain ⟨t2, t3, h2, h3, rfl⟩ := app2_some hu
  have hB : BIG = 18446744073709551616 := rfl
  simp only [List.length_append] at ht
  have e3 := wnum (w := []) (k := 1) (by omega) (by omega) h1 (by simp; omega)
  have e4 := wnum (w := [] ++ t1) (k := 2) (by omega) (by omega) h2 (by simp; omega)
  have e5 := wput_loop m L hL L.length BIG 0 ([] ++ t1 ++ t2) t3 (by omega) (by omega) h3 (by simp; omega)
  simp only [List.nil_append, List.append_assoc] at e3 e4 e5
  unfold wire_Put
  generalize hT : t1 ++ (t2 ++ t3) = T at e5 ⊢
  have hTl : T.length ≤ 1152921504606846976 := by rw [← hT]; simp only [List.length_append]; omega
  refine bind_eq hc (cond_f rfl (bind_eq e3 (bind_eq e4 (bind_eq hl (bind_eq e5 (cond_f rfl ?_))))))
  have el : w64 ((T.length : Int) + 4) = ((T.length + 4 : Nat) : Int) := by rw [w64_eq ⟨by omega, by omega⟩]; omega
  simp only [el]
  by_cases c : T.length + 4 ≤ 8192
  · rw [if_pos c]
    have e6 := octet_put_all ((T.length + 4 : Nat) : Int) 4 (by omega) (by omega)
    rw [if_pos (fits4 _ (by omega))] at e6
    exact cond_f (by simp; omega) (bind_eq e6 (bind_eq (cat_eq (by rw [leB_len]; omega)) rfl))
  · rw [if_neg c]
    exact cond_t (by simp; omega) rfl
/-- What was read is written again, byte for byte. -/
theorem put_good {m : api_Msg} {y : Str} (h : Good m y) : wire_Put m = some (y, 0) := by
  obtain ⟨_, hc, hz, h7, h8, L, hl, hL, he⟩ := h
  have hw : (win y 4 (y.length - 4)).length = y.length - 4 := win_len (by omega)
  rw [put_fwd m L _ hc hl hL he (by omega), hw, if_pos (by omega)]
  rw [show y.length - 4 + 4 = y.length by omega]
  have h4 : (win y 0 4).length = 4 := win_len (by omega)
  have e1 := leB_leV (win y 0 4)
  rw [hz, h4] at e1
  rw [e1, win_join y 0 4 (y.length - 4) 4 y.length (by omega) (by omega), win_whole]
theorem alive09 : law09_alive = some true := by kernel_rfl
end Go.Proofs.YtboplmpnjepdnaaGreat

/-
  Plain laws: messages read from pieces. No program in sight.
-/
namespace Go.Proofs.YtboplmpnjepdnaaGreat
open Go.Rt Go.RowKit

theorem msg_same (m : api_Msg) (h1 : m.Names_.length ≤ 9223372036854775807) (h2 : m.Qids_.length ≤ 9223372036854775807) : ref08_Same m m = some true := by
  have hB : BIG = 18446744073709551616 := rfl
  unfold ref08_Same
  refine cond_f (by simp) (bind_eq (loop_all3 m.Names_ (fun _ => none) (by omega) (fun i hi => ?_) ?_) ?_)
  · unfold ref08_Same_L1
    refine cond_t (by simp; omega) (bind_eq (getI_lt hi) (bind_eq (getI_lt hi) (cond_f (by simp) ?_)))
    rw [w64_eq (n := (i : Int) + 1) ⟨by omega, by omega⟩]; rfl
  · unfold ref08_Same_L1
    exact cond_f (by simp) rfl
  · have e : ∀ {α : Type} (l : List α), l.findSome? (fun _ => (none : Option Bool)) = none := by intro α l; simp
    rw [e]
    refine bind_eq (loop_all3 m.Qids_ (fun _ => none) (by omega) (fun i hi => ?_) ?_) ?_
    · unfold ref08_Same_L2
      refine cond_t (by simp; omega) (bind_eq (getI_lt hi) (bind_eq (getI_lt hi) (cond_f (by simp) ?_)))
      rw [w64_eq (n := (i : Int) + 1) ⟨by omega, by omega⟩]; rfl
    · unfold ref08_Same_L2
      exact cond_f (by simp) rfl
    · rw [e]; simp
/-- The next message of some bytes. -/
inductive Res where
  | stop
  | bad (e : Int)
  | got (m : api_Msg) (z : Nat)
noncomputable def one (o : Int) (x : Str) : Res :=
  if x.length < 4 then .stop
  else if (leV (win x 0 4) : Int) > o ∨ leV (win x 0 4) < 7 then .bad 19
  else if x.length < leV (win x 0 4) then .stop
  else match wire_Get x 0 with
    | some (m, _, e) => if e = 0 then .got m (leV (win x 0 4)) else .bad e
    | none => .stop
theorem four_lt (x : Str) : leV (win x 0 4) < 4294967296 := by
  have h1 := leV_lt (win x 0 4)
  have h2 : (win x 0 4).length ≤ 4 := by simp [win]; omega
  have h3 : 2 ^ (8 * (win x 0 4).length) ≤ 2 ^ 32 := Nat.pow_le_pow_right (by omega) (by omega)
  omega
theorem win_pre (p q : Str) (a w : Nat) (h : a + w ≤ p.length) : win (p ++ q) a w = win p a w := by
  unfold win
  rw [List.drop_append_of_le_length (by omega), List.take_append_of_le_length (by simp; omega)]
theorem oct0 (x : Str) (h : 4 ≤ x.length) (hs : x.length ≤ 1000000) : octet_Get x 0 4 = some ((leV (win x 0 4) : Int), 4, 0) := by
  have e := get_eq x 0 4 (by omega) (by omega) (by omega) (by omega)
  have := four_lt x
  rw [if_neg (by omega), if_neg (by omega)] at e
  exact e
theorem get_pre (p q : Str) (h4 : 4 ≤ p.length) (hz : leV (win p 0 4) ≤ p.length) (hs : (p ++ q).length ≤ 1000000) : wire_Get (p ++ q) 0 = wire_Get p 0 := by
  simp only [List.length_append] at hs
  have e1 := oct0 p h4 (by omega)
  have e2 := oct0 (p ++ q) (by simp; omega) (by simp; omega)
  rw [win_pre p q 0 4 (by omega)] at e2
  generalize leV (win p 0 4) = z at e1 e2 hz
  unfold wire_Get
  rw [e1, e2]
  simp only [Option.bind_some]
  have el : ∀ n : Nat, n ≤ 1000000 → w64 ((n : Int) - 0) = (n : Int) := fun n hn => by rw [w64_eq ⟨by omega, by omega⟩]; omega
  have s1 := win_sub p 0 z (by omega) (by omega)
  have s2 := win_sub (p ++ q) 0 z (by simp; omega) (by simp; omega)
  rw [win_pre p q 0 z (by omega)] at s2
  rw [show ((0 : Nat) : Int) = 0 from rfl] at s1 s2
  rw [el (p ++ q).length (by simp; omega), el p.length (by omega), s1, s2]
  have c1 : decide ((z : Int) > (p.length : Int)) = false := by simp; omega
  have c2 : decide ((z : Int) > ((p ++ q).length : Int)) = false := by simp; omega
  rw [c1, c2]
/-- More bytes behind them change nothing. -/
theorem one_pre (o : Int) (p q : Str) (hs : (p ++ q).length ≤ 1000000) (h : one o p ≠ .stop) : one o (p ++ q) = one o p := by
  unfold one at h ⊢
  by_cases h4 : p.length < 4
  · rw [if_pos h4] at h; exact absurd rfl h
  · rw [if_neg h4] at h
    rw [if_neg h4, if_neg (by simp; omega), win_pre p q 0 4 (by omega)]
    by_cases h7 : (leV (win p 0 4) : Int) > o ∨ leV (win p 0 4) < 7
    · rw [if_pos h7, if_pos h7]
    · rw [if_neg h7] at h
      rw [if_neg h7, if_neg h7]
      by_cases hz : p.length < leV (win p 0 4)
      · rw [if_pos hz] at h; exact absurd rfl h
      · rw [if_neg hz, if_neg (by simp; omega), get_pre p q (by omega) (by omega) hs]
theorem one_got {o : Int} {x : Str} {m : api_Msg} {z : Nat} (hs : x.length ≤ 1000000) (h : one o x = .got m z) : 7 ≤ z ∧ z ≤ x.length ∧ m.small ∧ wire_Get x 0 = some (m, (z : Int), 0) ∧ z = leV (win x 0 4) ∧ 4 ≤ x.length ∧ (z : Int) ≤ o := by
  unfold one at h
  split at h
  · cases h
  · split at h
    · cases h
    · split at h
      · cases h
      · obtain ⟨m', n, e, h1, h2⟩ := get_fwd x 0 hs
        rw [h1] at h
        simp only at h
        by_cases he : e = 0
        · rw [if_pos he] at h
          cases h
          rcases h2 with ⟨h2, _⟩ | ⟨_, A, z', hA, hn, hl, hw, hg⟩
          · exact absurd he h2
          · have : A = 0 := by omega
            subst this
            have hz : z' = leV (win x 0 4) := by
              have := hg.2.2.1
              rw [← hw] at this
              rw [← this]
              congr 1
              simp only [win, List.drop_zero, List.take_take]
              congr 1
              have := hg.2.2.2.1
              omega
            refine ⟨by omega, by omega, hg.1, ?_, rfl, by omega, by omega⟩
            rw [h1, he, hn, hz]
            simp
        · rw [if_neg he] at h; cases h
/-- The messages of some bytes, and what is left. -/
inductive Spl (o : Int) : Str → List api_Msg → Str → Prop
  | stop {x : Str} : one o x = .stop → Spl o x [] x
  | got {x : Str} {m : api_Msg} {z : Nat} {ms : List api_Msg} {r : Str} : one o x = .got m z → Spl o (x.drop z) ms r → Spl o x (m :: ms) r
theorem Spl.len {o : Int} {x : Str} {ms : List api_Msg} {r : Str} (h : Spl o x ms r) : x.length ≤ 1000000 → 7 * ms.length + r.length ≤ x.length ∧ ∀ m ∈ ms, m.small := by
  induction h with
  | stop _ => exact fun _ => ⟨by simp, fun m hm => by cases hm⟩
  | got h1 _ ih =>
    intro hs
    obtain ⟨a, b, c, _⟩ := one_got hs h1
    obtain ⟨i1, i2⟩ := ih (by simp; omega)
    simp only [List.length_drop, List.length_cons] at i1 ⊢
    refine ⟨by omega, fun m hm => ?_⟩
    cases hm with
    | head => exact c
    | tail _ hm => exact i2 m hm
theorem Spl.pieces {o : Int} {x : Str} {ms : List api_Msg} {r : Str} (h : Spl o x ms r) : ∀ p q, x = p ++ q → x.length ≤ 1000000 → ∃ ms1 r1 ms2, Spl o p ms1 r1 ∧ Spl o (r1 ++ q) ms2 r ∧ ms = ms1 ++ ms2 := by
  induction h with
  | stop h1 =>
    rename_i x
    intro p q hx hs
    subst hx
    have hp : one o p = .stop := Classical.byContradiction fun hn => hn ((one_pre o p q hs hn).symm.trans h1)
    exact ⟨[], p, [], .stop hp, .stop h1, rfl⟩
  | got h1 h2 ih =>
    rename_i x m z ms r
    intro p q hx hs
    subst hx
    by_cases hp : one o p = .stop
    · exact ⟨[], p, _, .stop hp, .got h1 h2, rfl⟩
    · have he := one_pre o p q hs hp
      rw [h1] at he
      simp only [List.length_append] at hs
      obtain ⟨a, b, _⟩ := one_got (by omega) he.symm
      obtain ⟨ms1, r1, ms2, i1, i2, i3⟩ := ih (p.drop z) q (List.drop_append_of_le_length b) (by simp; omega)
      exact ⟨m :: ms1, r1, ms2, .got he.symm i1, i2, by rw [i3]; rfl⟩
theorem split_body (o : Int) (x : Str) (acc : List api_Msg) (hs : x.length ≤ 1000000) (ha : acc.length ≤ 1000000) : wire_Split_L1 o (x, acc) = match one o x with
    | .stop => some (.done (.fall (x, acc)))
    | .bad e => some (.done (.ret ([], [], e)))
    | .got m z => some (.next (x.drop z, acc ++ [m])) := by
  unfold wire_Split_L1 one
  by_cases h4 : x.length < 4
  · rw [if_pos h4]; exact cond_f (by simp; omega) rfl
  rw [if_neg h4]
  refine cond_t (by simp; omega) (bind_eq (oct0 x (by omega) hs) ?_)
  by_cases h7 : (leV (win x 0 4) : Int) > o ∨ leV (win x 0 4) < 7
  · rw [if_pos h7]
    exact cond_t (by simp only [Bool.or_eq_true, decide_eq_true_eq, bne_iff_ne]; omega) rfl
  rw [if_neg h7]
  refine cond_f (by simp; omega) ?_
  by_cases hz : x.length < leV (win x 0 4)
  · rw [if_pos hz]; exact cond_t (by simp; omega) rfl
  rw [if_neg hz]
  refine cond_f (by simp; omega) ?_
  obtain ⟨m, n, e, h1, h2⟩ := get_fwd x 0 hs
  refine bind_eq h1 ?_
  rw [h1]
  by_cases he : e = 0
  · simp only [if_pos he]
    refine cond_f (by simpa using he) ?_
    rcases h2 with ⟨h2, _⟩ | ⟨_, A, z', hA, hn, hl, hw, hg⟩
    · exact absurd he h2
    · have : A = 0 := by omega
      subst this
      have hz' : z' = leV (win x 0 4) := by
        have := hg.2.2.1
        rw [← hw] at this
        rw [← this]
        congr 1
        simp only [win, List.drop_zero, List.take_take]
        congr 1
        have := hg.2.2.2.1
        omega
      rw [hn]
      refine bind_eq (subI_eq (by omega) (by omega) (by omega)) (bind_eq (room_eq (by simp; omega) (by simp; omega)) ?_)
      simp [hz']
  · simp only [if_neg he]
    exact cond_t (by simpa using he) rfl
theorem split_run {o : Int} {x : Str} {ms : List api_Msg} {r : Str} (h : Spl o x ms r) : ∀ (fuel : Nat) (acc : List api_Msg), x.length < fuel → acc.length + x.length ≤ 1000000 → loopF (wire_Split_L1 o) fuel (x, acc) = some (.fall (r, acc ++ ms)) := by
  induction h with
  | stop h1 =>
    rename_i x
    intro fuel acc hf ha
    cases fuel with
    | zero => omega
    | succ fuel =>
      refine loop_done ?_
      rw [split_body o x acc (by omega) (by omega), h1]
      simp
  | got h1 h2 ih =>
    rename_i x m z ms r
    intro fuel acc hf ha
    obtain ⟨a, b, _⟩ := one_got (by omega) h1
    cases fuel with
    | zero => omega
    | succ fuel =>
      have := ih fuel (acc ++ [m]) (by simp; omega) (by simp; omega)
      rw [List.append_assoc] at this
      refine loop_next ?_ this
      rw [split_body o x acc (by omega) (by omega), h1]
theorem split_any (o : Int) : ∀ (k : Nat) (x : Str), x.length < k → x.length ≤ 1000000 → (∃ ms r, Spl o x ms r) ∨ ∀ (fuel : Nat) (acc : List api_Msg), x.length < fuel → acc.length + x.length ≤ 1000000 → ∃ e, loopF (wire_Split_L1 o) fuel (x, acc) = some (.ret ([], [], e)) ∧ e ≠ 0
  | 0, x, h, _ => by omega
  | k + 1, x, h, hs => by
    cases h1 : one o x with
    | stop => exact .inl ⟨_, _, .stop h1⟩
    | bad e =>
      refine .inr fun fuel acc hf ha => ?_
      cases fuel with
      | zero => omega
      | succ fuel =>
        refine ⟨e, loop_done ?_, ?_⟩
        · rw [split_body o x acc (by omega) (by omega), h1]
        · unfold one at h1
          split at h1
          · cases h1
          · split at h1
            · cases h1; decide
            · split at h1
              · cases h1
              · split at h1
                · split at h1
                  · cases h1
                  · cases h1; assumption
                · cases h1
    | got m z =>
      obtain ⟨a, b, _⟩ := one_got hs h1
      rcases split_any o k (x.drop z) (by simp; omega) (by simp; omega) with ⟨ms, r, h2⟩ | h2
      · exact .inl ⟨_, _, .got h1 h2⟩
      · refine .inr fun fuel acc hf ha => ?_
        cases fuel with
        | zero => omega
        | succ fuel =>
          obtain ⟨e, e1, e2⟩ := h2 fuel (acc ++ [m]) (by simp; omega) (by simp; omega)
          refine ⟨e, loop_next ?_ e1, e2⟩
          rw [split_body o x acc (by omega) (by omega), h1]
def limR (n : Int) : Int := if n = 0 ∨ n > 8192 then 8192 else n
theorem split_spl {x : Str} {n : Int} {ms : List api_Msg} {r : Str} (hs : x.length ≤ 1000000) (h : Spl (limR n) x ms r) : wire_Split x n = some (ms, r, 0) := by
  unfold wire_Split
  have hB : BIG = 18446744073709551616 := rfl
  refine bind_eq (a := limR n) ?_ (bind_eq (split_run h BIG [] (by omega) (by simp; omega)) rfl)
  unfold limR
  by_cases hn : n = 0 ∨ n > 8192
  · rw [if_pos hn]; exact cond_t (by simpa using hn) rfl
  · rw [if_neg hn]; exact cond_f (by simp only [not_or] at hn; simp; omega) rfl
theorem split_all (x : Str) (n : Int) (hs : x.length ≤ 1000000) : (∃ ms r, Spl (limR n) x ms r) ∨ ∃ e, wire_Split x n = some ([], [], e) ∧ e ≠ 0 := by
  have hB : BIG = 18446744073709551616 := rfl
  rcases split_any (limR n) (x.length + 1) x (by omega) hs with h | h
  · exact .inl h
  · obtain ⟨e, e1, e2⟩ := h BIG [] (by omega) (by simp; omega)
    refine .inr ⟨e, ?_, e2⟩
    unfold wire_Split
    refine bind_eq (a := limR n) ?_ (bind_eq e1 rfl)
    unfold limR
    by_cases hn : n = 0 ∨ n > 8192
    · rw [if_pos hn]; exact cond_t (by simpa using hn) rfl
    · rw [if_neg hn]; exact cond_f (by simp only [not_or] at hn; simp; omega) rfl
end Go.Proofs.YtboplmpnjepdnaaGreat

/-
  Plain laws: fields of messages read back as they were written. No program in sight.
-/
namespace Go.Proofs.YtboplmpnjepdnaaGreat
open Go.Rt Go.RowKit

/-- The bytes t stand in y at a. -/
def At (y : Str) (a : Nat) (t : Str) : Prop := win y a t.length = t ∧ a + t.length ≤ y.length
theorem At.split {y : Str} {a : Nat} {t u : Str} (h : At y a (t ++ u)) : At y a t ∧ At y (a + t.length) u := by
  obtain ⟨h1, h2⟩ := win_in (v := t ++ u) h.1 rfl rfl
  have h3 := h.2
  rw [List.length_append] at h3
  exact ⟨⟨h1, by omega⟩, ⟨h2, by omega⟩⟩
def rd (y : Str) (a : Nat) : wire_reader := ⟨y, (a : Int), true⟩
theorem bnum {y t : Str} {a w : Nat} {n : Int} (h1 : 1 ≤ w) (h8 : w ≤ 8) (he : encN n w = some t) (hn : n ≤ 9223372036854775807) (h : At y a t) (hs : y.length ≤ 1000000) : wire_reader_number (rd y a) (w : Int) = some (n, rd y (a + t.length)) := by
  obtain ⟨e1, k, rfl, e2⟩ := enc_decN h8 he hn h.1 h.2
  have := rnum y a w h1 h8 (by have := h.2; omega) hs
  rw [e2] at this
  rw [e1]
  exact this
theorem btext {y s t : Str} {a : Nat} (he : encT s = some t) (h : At y a t) (hs : y.length ≤ 1000000) : wire_reader_text (rd y a) = some (s, rd y (a + t.length)) := by
  have := rtext y a (by have := h.2; omega) hs
  rw [enc_takeT he h.1 h.2] at this
  exact this
theorem encN_of {n : Int} {w : Nat} (h : fitsW n w = true) : encN n w = some (leB n w) := by unfold encN; rw [if_pos h]
theorem bqid {y t : Str} {a : Nat} {q : api_Qid} (he : encQ q = some t) (hq : q.Path_ ≤ 9223372036854775807 ∧ q.Type_ ≤ 9223372036854775807 ∧ q.Vers_ ≤ 9223372036854775807) (h : At y a t) (hs : y.length ≤ 1000000) : wire_reader_qid (rd y a) = some (q, rd y (a + t.length)) := by
  obtain ⟨f1, f2, f3, rfl⟩ := encQ_some he
  obtain ⟨h', h3⟩ := h.split
  obtain ⟨h1, h2⟩ := h'.split
  unfold wire_reader_qid
  refine bind_eq (bnum (w := 1) (by omega) (by omega) (encN_of f1) hq.2.1 h1 hs) ?_
  refine bind_eq (bnum (w := 4) (by omega) (by omega) (encN_of f2) hq.2.2 h2 hs) ?_
  rw [List.length_append, ← Nat.add_assoc] at h3
  refine bind_eq (bnum (w := 8) (by omega) (by omega) (encN_of f3) hq.1 h3 hs) ?_
  simp only [List.length_append, Nat.add_assoc]
theorem find_all : (List.range 60).all (fun n => n == 0 || decide (fault_Find (faultT (n : Int)) = some ((n : Int), true))) = true := by kernel_rfl
theorem find_self (n : Int) (h1 : 1 ≤ n) (h2 : n ≤ 59) : fault_Find (faultT n) = some (n, true) := by
  have := List.all_eq_true.1 find_all n.toNat (by simp; omega)
  have h0 : (n.toNat == 0) = false := by simp; omega
  rw [h0, Bool.false_or, decide_eq_true_eq, show ((n.toNat : Nat) : Int) = n by omega] at this
  exact this
theorem bfault {y t : Str} {a : Nat} {n : Int} (h1 : 1 ≤ n) (h2 : n ≤ 59) (he : encT (faultT n) = some t) (h : At y a t) (hs : y.length ≤ 1000000) : wire_reader_fault (rd y a) = some (n, rd y (a + t.length)) := by
  unfold wire_reader_fault
  exact bind_eq (btext he h hs) (bind_eq (find_self n h1 h2) rfl)
theorem bnames_loop (y : Str) (hs : y.length ≤ 1000000) : ∀ (l : List Str) (fuel p : Nat) (acc : List Str) (t : Str), l.length < fuel → acc.length + l.length ≤ 65535 → encs encT l = some t → At y p t →
    loopF wire_reader_names_L1 fuel ((l.length : Int), rd y p, acc) = some (acc ++ l, rd y (p + t.length))
  | [], 0, _, _, _, hf, _, _, _ => absurd hf (Nat.not_lt_zero _)
  | _ :: _, 0, _, _, _, hf, _, _, _ => absurd hf (Nat.not_lt_zero _)
  | [], fuel + 1, p, acc, t, _, _, he, _ => by
    cases he
    refine loop_done ?_
    unfold wire_reader_names_L1
    refine cond_f rfl ?_
    simp
  | s :: l, fuel + 1, p, acc, t, hf, hl, he, h => by
    obtain ⟨u, v, e1, e2, rfl⟩ := encs_cons he
    obtain ⟨h1, h2⟩ := h.split
    simp only [List.length_cons] at hf hl
    have ih := bnames_loop y hs l fuel (p + u.length) (acc ++ [s]) v (by omega) (by simp; omega) e2 h2
    rw [List.append_assoc] at ih
    simp only [List.length_append, ← Nat.add_assoc]
    refine loop_next ?_ ih
    unfold wire_reader_names_L1
    refine cond_t (by simp [rd]) (bind_eq (btext e1 h1 hs) (bind_eq (room_eq (by simp; omega) (by simp; omega)) ?_))
    rw [w64_eq ⟨by simp <;> omega, by simp <;> omega⟩]
    simp
theorem bnames {y t : Str} {a : Nat} {l : List Str} (he : encL encT l = some t) (h : At y a t) (hs : y.length ≤ 1000000) : wire_reader_names (rd y a) = some (l, rd y (a + t.length)) := by
  obtain ⟨hl, b, h1, rfl⟩ := encL_some he
  obtain ⟨k1, k2⟩ := h.split
  have hB : BIG = 18446744073709551616 := rfl
  unfold wire_reader_names
  refine bind_eq (bnum (w := 2) (by omega) (by omega) (len_enc _ hl) (by omega) k1 hs) (bind_eq (bnames_loop y hs l BIG _ [] b (by omega) (by simp; omega) h1 k2) ?_)
  simp only [List.length_append, ← Nat.add_assoc, List.nil_append]
def qle (q : api_Qid) : Prop := q.Path_ ≤ 9223372036854775807 ∧ q.Type_ ≤ 9223372036854775807 ∧ q.Vers_ ≤ 9223372036854775807
theorem bqids_loop (y : Str) (hs : y.length ≤ 1000000) : ∀ (l : List api_Qid) (fuel p : Nat) (acc : List api_Qid) (t : Str), (∀ q ∈ l, qle q) → l.length < fuel → acc.length + l.length ≤ 65535 → encs encQ l = some t → At y p t →
    loopF wire_reader_qids_L1 fuel ((l.length : Int), rd y p, acc) = some (acc ++ l, rd y (p + t.length))
  | [], 0, _, _, _, _, hf, _, _, _ => absurd hf (Nat.not_lt_zero _)
  | _ :: _, 0, _, _, _, _, hf, _, _, _ => absurd hf (Nat.not_lt_zero _)
  | [], fuel + 1, p, acc, t, _, _, _, he, _ => by
    cases he
    refine loop_done ?_
    unfold wire_reader_qids_L1
    refine cond_f rfl ?_
    simp
  | s :: l, fuel + 1, p, acc, t, hq, hf, hl, he, h => by
    obtain ⟨u, v, e1, e2, rfl⟩ := encs_cons he
    obtain ⟨h1, h2⟩ := h.split
    simp only [List.length_cons] at hf hl
    have ih := bqids_loop y hs l fuel (p + u.length) (acc ++ [s]) v (fun q h => hq q (List.mem_cons_of_mem _ h)) (by omega) (by simp; omega) e2 h2
    rw [List.append_assoc] at ih
    simp only [List.length_append, ← Nat.add_assoc]
    refine loop_next ?_ ih
    unfold wire_reader_qids_L1
    refine cond_t (by simp [rd]) (bind_eq (bqid e1 (hq s List.mem_cons_self) h1 hs) (bind_eq (room_eq (by simp; omega) (by simp; omega)) ?_))
    rw [w64_eq ⟨by simp <;> omega, by simp <;> omega⟩]
    simp
theorem bqids {y t : Str} {a : Nat} {l : List api_Qid} (hq : ∀ q ∈ l, qle q) (he : encL encQ l = some t) (h : At y a t) (hs : y.length ≤ 1000000) : wire_reader_qids (rd y a) = some (l, rd y (a + t.length)) := by
  obtain ⟨hl, b, h1, rfl⟩ := encL_some he
  obtain ⟨k1, k2⟩ := h.split
  have hB : BIG = 18446744073709551616 := rfl
  unfold wire_reader_qids
  refine bind_eq (bnum (w := 2) (by omega) (by omega) (len_enc _ hl) (by omega) k1 hs) (bind_eq (bqids_loop y hs l BIG _ [] b hq (by omega) (by simp; omega) h1 k2) ?_)
  simp only [List.length_append, ← Nat.add_assoc, List.nil_append]
theorem bdata {y t s : Str} {a w : Nat} (h1 : 1 ≤ w) (h8 : w ≤ 8) (he : encD s w = some t) (h : At y a t) (hs : y.length ≤ 1000000) : wire_reader_data (rd y a) (w : Int) = some (s, rd y (a + t.length)) := by
  obtain ⟨f, rfl⟩ := encD_some he
  obtain ⟨k1, k2, k3⟩ := h.split
  unfold wire_reader_data
  have hl : (leB (s.length : Int) w).length = w := leB_len _ _
  refine bind_eq (bnum (w := w) h1 h8 (encN_of f) (by omega) k1 hs) ?_
  rw [hl] at k2 k3
  rw [List.length_append, hl]
  have ew : w64 ((y.length : Int) - ((a + w : Nat) : Int)) = ((y.length - (a + w) : Nat) : Int) := by rw [w64_eq ⟨by omega, by omega⟩]; omega
  have ex : w64 (((a + w : Nat) : Int) + (s.length : Int)) = ((a + w + s.length : Nat) : Int) := by rw [w64_eq ⟨by omega, by omega⟩]; omega
  have ey : w64 (((a + w + s.length : Nat) : Int) - (s.length : Int)) = ((a + w : Nat) : Int) := by rw [w64_eq ⟨by omega, by omega⟩]; omega
  refine cond_f ?_ ?_
  · show (!true || decide ((s.length : Int) > w64 ((y.length : Int) - ((a + w : Nat) : Int)))) = false
    rw [ew]; simp; omega
  · show Option.bind (subI y (w64 (w64 (((a + w : Nat) : Int) + (s.length : Int)) - (s.length : Int))) (w64 (((a + w : Nat) : Int) + (s.length : Int)))) _ = _
    rw [ex, ey, ← ex]
    refine bind_eq (win_sub y (a + w) s.length (by omega) (by omega)) ?_
    show some (win y (a + w) s.length, (⟨y, w64 (((a + w : Nat) : Int) + (s.length : Int)), true⟩ : wire_reader)) = _
    rw [ex, k2, Nat.add_assoc]
    rfl
theorem bstat {y t : Str} {a : Nat} {d : api_Dir} (he : encS d = some t) (h : At y a t) (hs : y.length ≤ 1000000) : wire_reader_stat (rd y a) = some (d, rd y (a + t.length)) := by
  obtain ⟨f, rfl⟩ := encS_some he
  obtain ⟨l1, l2, l3, l4⟩ := texts_len d (checkR_zero d f).2
  have hlen := putB_len d
  have hD : encD (putB d) 2 = some (leB ((putB d).length : Int) 2 ++ putB d) := by
    unfold encD
    rw [if_pos]
    unfold fitsW
    simp only [Bool.and_eq_true, Bool.or_eq_true, decide_eq_true_eq]
    exact ⟨by omega, .inr (by omega)⟩
  have hg := stat_get_eq (putB d) 0 (by omega) (by omega)
  have hp := getR_put [] [] d (checkR_ok f) f
  simp only [List.nil_append, List.append_nil, List.length_nil, Nat.zero_add] at hp
  rw [hp] at hg
  unfold wire_reader_stat
  refine bind_eq (bdata (w := 2) (by omega) (by omega) hD h hs) (cond_f rfl (bind_eq hg ?_))
  simp [rd]
/-- What the reader needs of a field. -/
def fine (k : Lt) (m : api_Msg) : Prop := match k with
  | .m => m.Msize_ ≤ 9223372036854775807 | .a => m.AuthFid_ ≤ 9223372036854775807 | .q => qle m.Qid_ | .f => m.Fid_ ≤ 9223372036854775807
  | .e => 1 ≤ m.Err_ ∧ m.Err_ ≤ 59 | .o => m.OldTag_ ≤ 9223372036854775807 | .n => m.NewFid_ ≤ 9223372036854775807
  | .W => ∀ q ∈ m.Qids_, qle q | .M => m.Mode_ ≤ 9223372036854775807 | .i => m.Iounit_ ≤ 9223372036854775807
  | .p => m.Perm_ ≤ 9223372036854775807 | .O => m.Offset_ ≤ 9223372036854775807 | .c => m.Count_ ≤ 9223372036854775807
  | .l => m.Lease_ ≤ 9223372036854775807 | .t => m.Term_ ≤ 9223372036854775807 | _ => True
/-- A field is read back. -/
theorem bfield (k : Lt) (m m0 : api_Msg) {y t : Str} {a : Nat} (he : encF k m = some t) (hf : fine k m) (h : At y a t) (hs : y.length ≤ 1000000) : wire_reader_field (rd y a) m0 (k.byte : Int) = some (rd y (a + t.length), cpF k m m0) := by
  unfold wire_reader_field
  cases k with
  | m => exact bind_eq (bnum (w := 4) (by omega) (by omega) he hf h hs) rfl
  | v => exact bind_eq (btext he h hs) rfl
  | s => exact bind_eq (btext he h hs) rfl
  | a => exact bind_eq (bnum (w := 4) (by omega) (by omega) he hf h hs) rfl
  | u => exact bind_eq (btext he h hs) rfl
  | x => exact bind_eq (btext he h hs) rfl
  | q => exact bind_eq (bqid he hf h hs) rfl
  | f => exact bind_eq (bnum (w := 4) (by omega) (by omega) he hf h hs) rfl
  | e => exact bind_eq (bfault hf.1 hf.2 he h hs) rfl
  | o => exact bind_eq (bnum (w := 2) (by omega) (by omega) he hf h hs) rfl
  | n => exact bind_eq (bnum (w := 4) (by omega) (by omega) he hf h hs) rfl
  | w => exact bind_eq (bnames he h hs) rfl
  | W => exact bind_eq (bqids hf he h hs) rfl
  | M => exact bind_eq (bnum (w := 1) (by omega) (by omega) he hf h hs) rfl
  | i => exact bind_eq (bnum (w := 4) (by omega) (by omega) he hf h hs) rfl
  | N => exact bind_eq (btext he h hs) rfl
  | p => exact bind_eq (bnum (w := 4) (by omega) (by omega) he hf h hs) rfl
  | O => exact bind_eq (bnum (w := 8) (by omega) (by omega) he hf h hs) rfl
  | c => exact bind_eq (bnum (w := 4) (by omega) (by omega) he hf h hs) rfl
  | d => exact bind_eq (bdata (w := 4) (by omega) (by omega) he h hs) rfl
  | S => exact bind_eq (bstat he h hs) rfl
  | l => exact bind_eq (bnum (w := 1) (by omega) (by omega) he hf h hs) rfl
  | t => exact bind_eq (bnum (w := 4) (by omega) (by omega) he hf h hs) rfl
/-- The whole layout is read back. -/
theorem bloop (y : Str) (hs : y.length ≤ 1000000) (L : List Lt) (hL : L.length ≤ 100) (m : api_Msg) : ∀ (l : List Lt) (fuel i a : Nat) (m0 : api_Msg) (t : Str), L.drop i = l → i + l.length = L.length → l.length < fuel → encA l m = some t → (∀ k ∈ l, fine k m) → At y a t →
    loopF (wire_Get_L1 (layB L)) fuel ((i : Int), rd y a, m0) = some (rd y (a + t.length), cps l m m0)
  | [], 0, _, _, _, _, _, _, hf, _, _, _ => absurd hf (Nat.not_lt_zero _)
  | _ :: _, 0, _, _, _, _, _, _, hf, _, _, _ => absurd hf (Nat.not_lt_zero _)
  | [], fuel + 1, i, a, m0, t, hd, hi, _, he, _, _ => by
    cases he
    refine loop_done ?_
    unfold wire_Get_L1
    simp only [List.length_nil] at hi
    exact cond_f (by rw [layB_len]; simp; omega) rfl
  | k :: l, fuel + 1, i, a, m0, t, hd, hi, hf, he, hg, h => by
    simp only [List.length_cons] at hi hf
    have hlt : i < L.length := by omega
    rw [List.drop_eq_getElem_cons hlt] at hd
    simp only [List.cons.injEq] at hd
    obtain ⟨hk, hd⟩ := hd
    rw [encA_cons] at he
    obtain ⟨u, v, e1, e2, rfl⟩ := app2_some he
    obtain ⟨h1, h2⟩ := h.split
    have ih := bloop y hs L hL m l fuel (i + 1) (a + u.length) (cpF k m m0) v hd (by omega) (by omega) e2 (fun k' h' => hg k' (List.mem_cons_of_mem _ h')) h2
    simp only [List.length_append, ← Nat.add_assoc]
    refine loop_next ?_ ih
    unfold wire_Get_L1
    refine cond_t (by rw [layB_len]; simp; omega) (bind_eq (layB_byte L i hlt) ?_)
    rw [hk]
    refine bind_eq (bfield k m m0 e1 (hg k List.mem_cons_self) h1 hs) ?_
    rw [w64_eq (n := (i : Int) + 1) ⟨by omega, by omega⟩]; rfl
end Go.Proofs.YtboplmpnjepdnaaGreat

/-
  Plain laws: a message that passes the check can be written, and is read back. No program in sight.
-/
namespace Go.Proofs.YtboplmpnjepdnaaGreat
open Go.Rt Go.RowKit

/-- What is known of a message that comes in. -/
structure api_Msg.ok (m : api_Msg) : Prop where
  small : m.small
  qids : ∀ q ∈ m.Qids_, q.ok
  qid : m.Qid_.ok
theorem inR_zero {x a b : Int} (h : inR x a b = 0) : a ≤ x ∧ x ≤ b := by
  unfold inR at h
  split at h
  · assumption
  · cases h
theorem shortR_zero {s : Str} {n : Int} (h : shortR s n = 0) : (s.length : Int) ≤ n := by
  unfold shortR at h
  split at h
  · assumption
  · cases h
theorem qidR_zero {q : api_Qid} (hq : q.ok) (h : qidR q = 0) : qle q ∧ ∃ t, encQ q = some t := by
  unfold qidR at h
  split at h
  · cases h
  · rename_i hc
    have hz := first_zero h
    obtain ⟨v1, v2⟩ := inR_zero (x := q.Vers_) (a := 0) (b := 2147483647) (hz _ (by simp))
    obtain ⟨p1, p2⟩ := inR_zero (x := q.Path_) (a := 0) (b := 1099511627776) (hz _ (by simp))
    simp only [Bool.or_eq_true, decide_eq_true_eq, bne_iff_ne, not_or, Decidable.not_not] at hc
    obtain ⟨t1, t2⟩ := hc
    have hT : q.Type_ ≤ 9223372036854775807 := hq.1.2
    have hb : okBits q.Type_ ((232 : Nat) : Int) = true := by
      have hw := within_eq q.Type_ 232 (by omega) hT
      unfold stat_within at hw
      rw [← Option.some.inj hw]
      simp only [Bool.or_eq_true, Bool.and_eq_true, beq_iff_eq, decide_eq_true_eq]
      exact .inr ⟨by omega, t2⟩
    have := bits_in q.Type_ 232 (by omega) hT hb
    unfold okIn at this
    simp only [Bool.or_eq_true, Bool.and_eq_true, beq_iff_eq, decide_eq_true_eq] at this
    refine ⟨⟨by omega, hT, by omega⟩, ?_⟩
    unfold encQ
    have f1 : fitsW q.Type_ 1 = true := by
      unfold fitsW; simp only [Bool.and_eq_true, Bool.or_eq_true, decide_eq_true_eq]; exact ⟨by omega, .inr (by omega)⟩
    have f2 : fitsW q.Vers_ 4 = true := by
      unfold fitsW; simp only [Bool.and_eq_true, Bool.or_eq_true, decide_eq_true_eq]; exact ⟨by omega, .inr (by omega)⟩
    have f3 : fitsW q.Path_ 8 = true := by
      unfold fitsW; simp only [Bool.and_eq_true, Bool.or_eq_true, decide_eq_true_eq]; exact ⟨by omega, .inl (by omega)⟩
    rw [f1, f2, f3]
    exact ⟨_, rfl⟩
theorem encs_ex {α : Type} {f : α → Option Str} : ∀ {l : List α}, (∀ x ∈ l, ∃ t, f x = some t) → ∃ t, encs f l = some t
  | [], _ => ⟨[], rfl⟩
  | x :: l, h => by
    obtain ⟨a, ha⟩ := h x List.mem_cons_self
    obtain ⟨b, hb⟩ := encs_ex (l := l) fun y hy => h y (List.mem_cons_of_mem _ hy)
    unfold encs
    rw [ha, hb]
    exact ⟨_, rfl⟩
theorem encL_ex {α : Type} {f : α → Option Str} {l : List α} (hl : l.length ≤ 65535) (h : ∀ x ∈ l, ∃ t, f x = some t) : ∃ t, encL f l = some t := by
  obtain ⟨b, hb⟩ := encs_ex h
  unfold encL
  rw [if_pos hl, hb]
  exact ⟨_, rfl⟩
theorem okName_len {s : Str} (h : okName s = true) : s.length ≤ 64 := by
  unfold okName at h
  simp only [Bool.and_eq_true, decide_eq_true_eq] at h
  exact h.1.1.1.2
theorem okN_zero {s : Str} (h : (if okName s then (0 : Int) else 6) = 0) : okName s = true := by
  cases e : okName s with
  | true => rfl
  | false => rw [e] at h; cases h
theorem encT_ex {s : Str} (h : s.length ≤ 65535) : ∃ t, encT s = some t := by
  unfold encT; rw [if_pos h]; exact ⟨_, rfl⟩
theorem encN_ex {n : Int} {w : Nat} (h0 : 0 ≤ n) (h : n < 2 ^ (8 * w) ∨ 8 ≤ w) : ∃ t, encN n w = some t := by
  have : fitsW n w = true := by
    unfold fitsW; simp only [Bool.and_eq_true, Bool.or_eq_true, decide_eq_true_eq]; exact ⟨h0, h.symm⟩
  exact ⟨_, encN_of this⟩
theorem namesR_zero {l : List Str} (h : namesR l = 0) : ∃ t, encL encT l = some t := by
  unfold namesR at h
  split at h
  · cases h
  · refine encL_ex (by omega) fun s hs => ?_
    have key : l.findSome? name1 = none := by
      cases e : l.findSome? name1 with
      | none => rfl
      | some y =>
        rw [e] at h
        obtain ⟨a, _, ha⟩ := List.exists_of_findSome?_eq_some e
        unfold name1 at ha
        split at ha
        · cases ha
        · cases ha; cases h
    have h1 := find_none key s hs
    unfold name1 at h1
    split at h1
    · rename_i hc
      rcases hc with rfl | hc
      · exact encT_ex (by decide)
      · have := okName_len hc
        exact encT_ex (by omega)
    · cases h1
theorem qidsR_zero {l : List api_Qid} (hq : ∀ q ∈ l, q.ok) (h : qidsR l = 0) : (∀ q ∈ l, qle q) ∧ ∃ t, encL encQ l = some t := by
  unfold qidsR at h
  split at h
  · cases h
  · have key : l.findSome? qid1 = none := by
      cases e : l.findSome? qid1 with
      | none => rfl
      | some y =>
        rw [e] at h
        obtain ⟨a, _, ha⟩ := List.exists_of_findSome?_eq_some e
        unfold qid1 first1 at ha
        split at ha
        · cases ha
        · cases ha; exact absurd h ‹_›
    have hz : ∀ q ∈ l, qidR q = 0 := fun q hx => by
      have h1 := find_none key q hx
      unfold qid1 first1 at h1
      split at h1
      · assumption
      · cases h1
    exact ⟨fun q hx => (qidR_zero (hq q hx) (hz q hx)).1, encL_ex (by omega) fun q hx => (qidR_zero (hq q hx) (hz q hx)).2⟩
theorem fault_len (n : Int) (h1 : 1 ≤ n) (h2 : n ≤ 59) : (faultT n).length ≤ 65535 := by
  have key : (List.range 60).all (fun n => decide ((faultT (n : Int)).length ≤ 65535)) = true := by kernel_rfl
  have := List.all_eq_true.1 key n.toNat (by simp; omega)
  rw [decide_eq_true_eq, show ((n.toNat : Nat) : Int) = n by omega] at this
  exact this
theorem encD_ex {s : Str} (h : s.length ≤ 65535) : ∃ t, encD s 4 = some t := by
  unfold encD
  rw [if_pos (fits4 _ (by omega))]
  exact ⟨_, rfl⟩
theorem encS_ex {d : api_Dir} (h : checkR d = 0) : ∃ t, encS d = some t := by
  unfold encS; rw [if_pos h]; exact ⟨_, rfl⟩
/-- A field can be written, and read back. -/
def Wr (m : api_Msg) (k : Lt) : Prop := (∃ t, encF k m = some t) ∧ fine k m
theorem encA_ex {m : api_Msg} : ∀ {l : List Lt}, (∀ k ∈ l, Wr m k) → ∃ t, encA l m = some t := fun h => encs_ex fun k hk => (h k hk).1
theorem fields_100 (m : api_Msg) (hk : m.Kind_ = 100) (h : m.ok) : msg_fields m = some (firstR [inR m.Msize_ 0 4294967295, shortR m.Version_ 64, shortR m.Session_ 64]) := by
  obtain ⟨_, h2, _, h4, h5⟩ := h.small
  unfold msg_fields
  rw [hk]
  simp only [Int.reduceBEq, BEq.rfl, cond_true, cond_false, Option.bind_some, in_eq, short_eq, fid_eq, qid_eq, qids_eq, names_eq _ h2, named_eq _ h4, check_eq _ h5 h5.2.2.2.2.2.2.2.1, first_eq _ (show List.length [_, _] ≤ 1000000 by simp), first_eq _ (show List.length [_, _, _] ≤ 1000000 by simp), first_eq _ (show List.length [_, _, _, _] ≤ 1000000 by simp)]
theorem wr_100 (m : api_Msg) (hk : m.Kind_ = 100) (h : m.ok) (hf : msg_fields m = some 0) : ∀ k ∈ ([.m, .v] : List Lt), Wr m k := by
  rw [fields_100 m hk h] at hf
  have hz := Option.some.inj hf
  have z0 : inR m.Msize_ 0 4294967295 = 0 := first_zero hz _ (.head _)
  have z1 : shortR m.Version_ 64 = 0 := first_zero hz _ (.tail _ (.head _))
  have z2 : shortR m.Session_ 64 = 0 := first_zero hz _ (.tail _ (.tail _ (.head _)))
  have w_m : Wr m .m := by obtain ⟨a, b⟩ := inR_zero z0; exact ⟨encN_ex (n := m.Msize_) (by omega) (by omega), by show m.Msize_ ≤ _; omega⟩
  have w_v : Wr m .v := by have a := shortR_zero z1; exact ⟨encT_ex (s := m.Version_) (by omega), trivial⟩
  intro k hk
  simp only [List.mem_cons, List.not_mem_nil, or_false] at hk
  rcases hk with rfl | rfl
  · exact w_m
  · exact w_v
theorem fields_101 (m : api_Msg) (hk : m.Kind_ = 101) (h : m.ok) : msg_fields m = some (firstR [inR m.Msize_ 0 4294967295, shortR m.Version_ 64, shortR m.Session_ 64]) := by
  obtain ⟨_, h2, _, h4, h5⟩ := h.small
  unfold msg_fields
  rw [hk]
  simp only [Int.reduceBEq, BEq.rfl, cond_true, cond_false, Option.bind_some, in_eq, short_eq, fid_eq, qid_eq, qids_eq, names_eq _ h2, named_eq _ h4, check_eq _ h5 h5.2.2.2.2.2.2.2.1, first_eq _ (show List.length [_, _] ≤ 1000000 by simp), first_eq _ (show List.length [_, _, _] ≤ 1000000 by simp), first_eq _ (show List.length [_, _, _, _] ≤ 1000000 by simp)]
theorem wr_101 (m : api_Msg) (hk : m.Kind_ = 101) (h : m.ok) (hf : msg_fields m = some 0) : ∀ k ∈ ([.m, .v, .s] : List Lt), Wr m k := by
  rw [fields_101 m hk h] at hf
  have hz := Option.some.inj hf
  have z0 : inR m.Msize_ 0 4294967295 = 0 := first_zero hz _ (.head _)
  have z1 : shortR m.Version_ 64 = 0 := first_zero hz _ (.tail _ (.head _))
  have z2 : shortR m.Session_ 64 = 0 := first_zero hz _ (.tail _ (.tail _ (.head _)))
  have w_m : Wr m .m := by obtain ⟨a, b⟩ := inR_zero z0; exact ⟨encN_ex (n := m.Msize_) (by omega) (by omega), by show m.Msize_ ≤ _; omega⟩
  have w_v : Wr m .v := by have a := shortR_zero z1; exact ⟨encT_ex (s := m.Version_) (by omega), trivial⟩
  have w_s : Wr m .s := by have a := shortR_zero z2; exact ⟨encT_ex (s := m.Session_) (by omega), trivial⟩
  intro k hk
  simp only [List.mem_cons, List.not_mem_nil, or_false] at hk
  rcases hk with rfl | rfl | rfl
  · exact w_m
  · exact w_v
  · exact w_s
theorem fields_102 (m : api_Msg) (hk : m.Kind_ = 102) (h : m.ok) : msg_fields m = some (firstR [inR m.AuthFid_ 0 4294967294, shortR m.User_ 32, shortR m.Attach_ 1024]) := by
  obtain ⟨_, h2, _, h4, h5⟩ := h.small
  unfold msg_fields
  rw [hk]
  simp only [Int.reduceBEq, BEq.rfl, cond_true, cond_false, Option.bind_some, in_eq, short_eq, fid_eq, qid_eq, qids_eq, names_eq _ h2, named_eq _ h4, check_eq _ h5 h5.2.2.2.2.2.2.2.1, first_eq _ (show List.length [_, _] ≤ 1000000 by simp), first_eq _ (show List.length [_, _, _] ≤ 1000000 by simp), first_eq _ (show List.length [_, _, _, _] ≤ 1000000 by simp)]
theorem wr_102 (m : api_Msg) (hk : m.Kind_ = 102) (h : m.ok) (hf : msg_fields m = some 0) : ∀ k ∈ ([.a, .u, .x] : List Lt), Wr m k := by
  rw [fields_102 m hk h] at hf
  have hz := Option.some.inj hf
  have z0 : inR m.AuthFid_ 0 4294967294 = 0 := first_zero hz _ (.head _)
  have z1 : shortR m.User_ 32 = 0 := first_zero hz _ (.tail _ (.head _))
  have z2 : shortR m.Attach_ 1024 = 0 := first_zero hz _ (.tail _ (.tail _ (.head _)))
  have w_a : Wr m .a := by obtain ⟨a, b⟩ := inR_zero z0; exact ⟨encN_ex (n := m.AuthFid_) (by omega) (by omega), by show m.AuthFid_ ≤ _; omega⟩
  have w_u : Wr m .u := by have a := shortR_zero z1; exact ⟨encT_ex (s := m.User_) (by omega), trivial⟩
  have w_x : Wr m .x := by have a := shortR_zero z2; exact ⟨encT_ex (s := m.Attach_) (by omega), trivial⟩
  intro k hk
  simp only [List.mem_cons, List.not_mem_nil, or_false] at hk
  rcases hk with rfl | rfl | rfl
  · exact w_a
  · exact w_u
  · exact w_x
theorem fields_103 (m : api_Msg) (hk : m.Kind_ = 103) (h : m.ok) : msg_fields m = some (firstR [qidR m.Qid_, inR m.Iounit_ 0 8192]) := by
  obtain ⟨_, h2, _, h4, h5⟩ := h.small
  unfold msg_fields
  rw [hk]
  simp only [Int.reduceBEq, BEq.rfl, cond_true, cond_false, Option.bind_some, in_eq, short_eq, fid_eq, qid_eq, qids_eq, names_eq _ h2, named_eq _ h4, check_eq _ h5 h5.2.2.2.2.2.2.2.1, first_eq _ (show List.length [_, _] ≤ 1000000 by simp), first_eq _ (show List.length [_, _, _] ≤ 1000000 by simp), first_eq _ (show List.length [_, _, _, _] ≤ 1000000 by simp)]
theorem wr_103 (m : api_Msg) (hk : m.Kind_ = 103) (h : m.ok) (hf : msg_fields m = some 0) : ∀ k ∈ ([.q] : List Lt), Wr m k := by
  rw [fields_103 m hk h] at hf
  have hz := Option.some.inj hf
  have z0 : qidR m.Qid_ = 0 := first_zero hz _ (.head _)
  have z1 : inR m.Iounit_ 0 8192 = 0 := first_zero hz _ (.tail _ (.head _))
  have w_q : Wr m .q := by obtain ⟨a, b⟩ := qidR_zero h.qid z0; exact ⟨b, a⟩
  intro k hk
  simp only [List.mem_cons, List.not_mem_nil, or_false] at hk
  subst hk; exact w_q
theorem fields_104 (m : api_Msg) (hk : m.Kind_ = 104) (h : m.ok) : msg_fields m = some (firstR [inR m.Fid_ 0 4294967294, inR m.AuthFid_ 0 4294967295, shortR m.User_ 32, shortR m.Attach_ 1024]) := by
  obtain ⟨_, h2, _, h4, h5⟩ := h.small
  unfold msg_fields
  rw [hk]
  simp only [Int.reduceBEq, BEq.rfl, cond_true, cond_false, Option.bind_some, in_eq, short_eq, fid_eq, qid_eq, qids_eq, names_eq _ h2, named_eq _ h4, check_eq _ h5 h5.2.2.2.2.2.2.2.1, first_eq _ (show List.length [_, _] ≤ 1000000 by simp), first_eq _ (show List.length [_, _, _] ≤ 1000000 by simp), first_eq _ (show List.length [_, _, _, _] ≤ 1000000 by simp)]
theorem wr_104 (m : api_Msg) (hk : m.Kind_ = 104) (h : m.ok) (hf : msg_fields m = some 0) : ∀ k ∈ ([.f, .a, .u, .x] : List Lt), Wr m k := by
  rw [fields_104 m hk h] at hf
  have hz := Option.some.inj hf
  have z0 : inR m.Fid_ 0 4294967294 = 0 := first_zero hz _ (.head _)
  have z1 : inR m.AuthFid_ 0 4294967295 = 0 := first_zero hz _ (.tail _ (.head _))
  have z2 : shortR m.User_ 32 = 0 := first_zero hz _ (.tail _ (.tail _ (.head _)))
  have z3 : shortR m.Attach_ 1024 = 0 := first_zero hz _ (.tail _ (.tail _ (.tail _ (.head _))))
  have w_f : Wr m .f := by obtain ⟨a, b⟩ := inR_zero z0; exact ⟨encN_ex (n := m.Fid_) (by omega) (by omega), by show m.Fid_ ≤ _; omega⟩
  have w_a : Wr m .a := by obtain ⟨a, b⟩ := inR_zero z1; exact ⟨encN_ex (n := m.AuthFid_) (by omega) (by omega), by show m.AuthFid_ ≤ _; omega⟩
  have w_u : Wr m .u := by have a := shortR_zero z2; exact ⟨encT_ex (s := m.User_) (by omega), trivial⟩
  have w_x : Wr m .x := by have a := shortR_zero z3; exact ⟨encT_ex (s := m.Attach_) (by omega), trivial⟩
  intro k hk
  simp only [List.mem_cons, List.not_mem_nil, or_false] at hk
  rcases hk with rfl | rfl | rfl | rfl
  · exact w_f
  · exact w_a
  · exact w_u
  · exact w_x
theorem fields_105 (m : api_Msg) (hk : m.Kind_ = 105) (h : m.ok) : msg_fields m = some (firstR [qidR m.Qid_, inR m.Iounit_ 0 8192]) := by
  obtain ⟨_, h2, _, h4, h5⟩ := h.small
  unfold msg_fields
  rw [hk]
  simp only [Int.reduceBEq, BEq.rfl, cond_true, cond_false, Option.bind_some, in_eq, short_eq, fid_eq, qid_eq, qids_eq, names_eq _ h2, named_eq _ h4, check_eq _ h5 h5.2.2.2.2.2.2.2.1, first_eq _ (show List.length [_, _] ≤ 1000000 by simp), first_eq _ (show List.length [_, _, _] ≤ 1000000 by simp), first_eq _ (show List.length [_, _, _, _] ≤ 1000000 by simp)]
theorem wr_105 (m : api_Msg) (hk : m.Kind_ = 105) (h : m.ok) (hf : msg_fields m = some 0) : ∀ k ∈ ([.q] : List Lt), Wr m k := by
  rw [fields_105 m hk h] at hf
  have hz := Option.some.inj hf
  have z0 : qidR m.Qid_ = 0 := first_zero hz _ (.head _)
  have z1 : inR m.Iounit_ 0 8192 = 0 := first_zero hz _ (.tail _ (.head _))
  have w_q : Wr m .q := by obtain ⟨a, b⟩ := qidR_zero h.qid z0; exact ⟨b, a⟩
  intro k hk
  simp only [List.mem_cons, List.not_mem_nil, or_false] at hk
  subst hk; exact w_q
theorem fields_107 (m : api_Msg) (hk : m.Kind_ = 107) (h : m.ok) : msg_fields m = some (inR m.Err_ 1 59) := by
  obtain ⟨_, h2, _, h4, h5⟩ := h.small
  unfold msg_fields
  rw [hk]
  simp only [Int.reduceBEq, BEq.rfl, cond_true, cond_false, Option.bind_some, in_eq, short_eq, fid_eq, qid_eq, qids_eq, names_eq _ h2, named_eq _ h4, check_eq _ h5 h5.2.2.2.2.2.2.2.1, first_eq _ (show List.length [_, _] ≤ 1000000 by simp), first_eq _ (show List.length [_, _, _] ≤ 1000000 by simp), first_eq _ (show List.length [_, _, _, _] ≤ 1000000 by simp)]
theorem wr_107 (m : api_Msg) (hk : m.Kind_ = 107) (h : m.ok) (hf : msg_fields m = some 0) : ∀ k ∈ ([.e] : List Lt), Wr m k := by
  rw [fields_107 m hk h] at hf
  have hz := Option.some.inj hf
  have z0 : inR m.Err_ 1 59 = 0 := hz
  have w_e : Wr m .e := by obtain ⟨a, b⟩ := inR_zero z0; exact ⟨encT_ex (s := faultT m.Err_) (fault_len _ a b), a, b⟩
  intro k hk
  simp only [List.mem_cons, List.not_mem_nil, or_false] at hk
  subst hk; exact w_e
theorem fields_108 (m : api_Msg) (hk : m.Kind_ = 108) (h : m.ok) : msg_fields m = some (inR m.OldTag_ 0 65534) := by
  obtain ⟨_, h2, _, h4, h5⟩ := h.small
  unfold msg_fields
  rw [hk]
  simp only [Int.reduceBEq, BEq.rfl, cond_true, cond_false, Option.bind_some, in_eq, short_eq, fid_eq, qid_eq, qids_eq, names_eq _ h2, named_eq _ h4, check_eq _ h5 h5.2.2.2.2.2.2.2.1, first_eq _ (show List.length [_, _] ≤ 1000000 by simp), first_eq _ (show List.length [_, _, _] ≤ 1000000 by simp), first_eq _ (show List.length [_, _, _, _] ≤ 1000000 by simp)]
theorem wr_108 (m : api_Msg) (hk : m.Kind_ = 108) (h : m.ok) (hf : msg_fields m = some 0) : ∀ k ∈ ([.o] : List Lt), Wr m k := by
  rw [fields_108 m hk h] at hf
  have hz := Option.some.inj hf
  have z0 : inR m.OldTag_ 0 65534 = 0 := hz
  have w_o : Wr m .o := by obtain ⟨a, b⟩ := inR_zero z0; exact ⟨encN_ex (n := m.OldTag_) (by omega) (by omega), by show m.OldTag_ ≤ _; omega⟩
  intro k hk
  simp only [List.mem_cons, List.not_mem_nil, or_false] at hk
  subst hk; exact w_o
theorem fields_109 (m : api_Msg) (hk : m.Kind_ = 109) (h : m.ok) : msg_fields m = some (inR m.Fid_ 0 4294967294) := by
  obtain ⟨_, h2, _, h4, h5⟩ := h.small
  unfold msg_fields
  rw [hk]
  simp only [Int.reduceBEq, cond_false, Option.bind_some, in_eq, short_eq, fid_eq, qid_eq, qids_eq, names_eq _ h2, named_eq _ h4, check_eq _ h5 h5.2.2.2.2.2.2.2.1, first_eq _ (show List.length [_, _] ≤ 1000000 by simp), first_eq _ (show List.length [_, _, _] ≤ 1000000 by simp), first_eq _ (show List.length [_, _, _, _] ≤ 1000000 by simp)]
theorem wr_109 (m : api_Msg) (_ : m.Kind_ = 109) (_ : m.ok) (_ : msg_fields m = some 0) : ∀ k ∈ ([] : List Lt), Wr m k := by
  intro k hk; cases hk
theorem fields_110 (m : api_Msg) (hk : m.Kind_ = 110) (h : m.ok) : msg_fields m = some (firstR [inR m.Fid_ 0 4294967294, inR m.NewFid_ 0 4294967294, namesR m.Names_]) := by
  obtain ⟨_, h2, _, h4, h5⟩ := h.small
  unfold msg_fields
  rw [hk]
  simp only [Int.reduceBEq, BEq.rfl, cond_true, cond_false, Option.bind_some, in_eq, short_eq, fid_eq, qid_eq, qids_eq, names_eq _ h2, named_eq _ h4, check_eq _ h5 h5.2.2.2.2.2.2.2.1, first_eq _ (show List.length [_, _] ≤ 1000000 by simp), first_eq _ (show List.length [_, _, _] ≤ 1000000 by simp), first_eq _ (show List.length [_, _, _, _] ≤ 1000000 by simp)]
theorem wr_110 (m : api_Msg) (hk : m.Kind_ = 110) (h : m.ok) (hf : msg_fields m = some 0) : ∀ k ∈ ([.f, .n, .w] : List Lt), Wr m k := by
  rw [fields_110 m hk h] at hf
  have hz := Option.some.inj hf
  have z0 : inR m.Fid_ 0 4294967294 = 0 := first_zero hz _ (.head _)
  have z1 : inR m.NewFid_ 0 4294967294 = 0 := first_zero hz _ (.tail _ (.head _))
  have z2 : namesR m.Names_ = 0 := first_zero hz _ (.tail _ (.tail _ (.head _)))
  have w_f : Wr m .f := by obtain ⟨a, b⟩ := inR_zero z0; exact ⟨encN_ex (n := m.Fid_) (by omega) (by omega), by show m.Fid_ ≤ _; omega⟩
  have w_n : Wr m .n := by obtain ⟨a, b⟩ := inR_zero z1; exact ⟨encN_ex (n := m.NewFid_) (by omega) (by omega), by show m.NewFid_ ≤ _; omega⟩
  have w_w : Wr m .w := ⟨namesR_zero z2, trivial⟩
  intro k hk
  simp only [List.mem_cons, List.not_mem_nil, or_false] at hk
  rcases hk with rfl | rfl | rfl
  · exact w_f
  · exact w_n
  · exact w_w
theorem fields_111 (m : api_Msg) (hk : m.Kind_ = 111) (h : m.ok) : msg_fields m = some (qidsR m.Qids_) := by
  obtain ⟨_, h2, _, h4, h5⟩ := h.small
  unfold msg_fields
  rw [hk]
  simp only [Int.reduceBEq, BEq.rfl, cond_true, cond_false, Option.bind_some, in_eq, short_eq, fid_eq, qid_eq, qids_eq, names_eq _ h2, named_eq _ h4, check_eq _ h5 h5.2.2.2.2.2.2.2.1, first_eq _ (show List.length [_, _] ≤ 1000000 by simp), first_eq _ (show List.length [_, _, _] ≤ 1000000 by simp), first_eq _ (show List.length [_, _, _, _] ≤ 1000000 by simp)]
theorem wr_111 (m : api_Msg) (hk : m.Kind_ = 111) (h : m.ok) (hf : msg_fields m = some 0) : ∀ k ∈ ([.W] : List Lt), Wr m k := by
  rw [fields_111 m hk h] at hf
  have hz := Option.some.inj hf
  have z0 : qidsR m.Qids_ = 0 := hz
  have w_W : Wr m .W := by obtain ⟨a, b⟩ := qidsR_zero h.qids z0; exact ⟨b, a⟩
  intro k hk
  simp only [List.mem_cons, List.not_mem_nil, or_false] at hk
  subst hk; exact w_W
theorem fields_112 (m : api_Msg) (hk : m.Kind_ = 112) (h : m.ok) : msg_fields m = some (firstR [inR m.Fid_ 0 4294967294, inR m.Mode_ 0 255]) := by
  obtain ⟨_, h2, _, h4, h5⟩ := h.small
  unfold msg_fields
  rw [hk]
  simp only [Int.reduceBEq, BEq.rfl, cond_true, cond_false, Option.bind_some, in_eq, short_eq, fid_eq, qid_eq, qids_eq, names_eq _ h2, named_eq _ h4, check_eq _ h5 h5.2.2.2.2.2.2.2.1, first_eq _ (show List.length [_, _] ≤ 1000000 by simp), first_eq _ (show List.length [_, _, _] ≤ 1000000 by simp), first_eq _ (show List.length [_, _, _, _] ≤ 1000000 by simp)]
theorem wr_112 (m : api_Msg) (hk : m.Kind_ = 112) (h : m.ok) (hf : msg_fields m = some 0) : ∀ k ∈ ([.f, .M] : List Lt), Wr m k := by
  rw [fields_112 m hk h] at hf
  have hz := Option.some.inj hf
  have z0 : inR m.Fid_ 0 4294967294 = 0 := first_zero hz _ (.head _)
  have z1 : inR m.Mode_ 0 255 = 0 := first_zero hz _ (.tail _ (.head _))
  have w_f : Wr m .f := by obtain ⟨a, b⟩ := inR_zero z0; exact ⟨encN_ex (n := m.Fid_) (by omega) (by omega), by show m.Fid_ ≤ _; omega⟩
  have w_M : Wr m .M := by obtain ⟨a, b⟩ := inR_zero z1; exact ⟨encN_ex (n := m.Mode_) (by omega) (by omega), by show m.Mode_ ≤ _; omega⟩
  intro k hk
  simp only [List.mem_cons, List.not_mem_nil, or_false] at hk
  rcases hk with rfl | rfl
  · exact w_f
  · exact w_M
theorem fields_113 (m : api_Msg) (hk : m.Kind_ = 113) (h : m.ok) : msg_fields m = some (firstR [qidR m.Qid_, inR m.Iounit_ 0 8192]) := by
  obtain ⟨_, h2, _, h4, h5⟩ := h.small
  unfold msg_fields
  rw [hk]
  simp only [Int.reduceBEq, BEq.rfl, cond_true, cond_false, Option.bind_some, in_eq, short_eq, fid_eq, qid_eq, qids_eq, names_eq _ h2, named_eq _ h4, check_eq _ h5 h5.2.2.2.2.2.2.2.1, first_eq _ (show List.length [_, _] ≤ 1000000 by simp), first_eq _ (show List.length [_, _, _] ≤ 1000000 by simp), first_eq _ (show List.length [_, _, _, _] ≤ 1000000 by simp)]
theorem wr_113 (m : api_Msg) (hk : m.Kind_ = 113) (h : m.ok) (hf : msg_fields m = some 0) : ∀ k ∈ ([.q, .i] : List Lt), Wr m k := by
  rw [fields_113 m hk h] at hf
  have hz := Option.some.inj hf
  have z0 : qidR m.Qid_ = 0 := first_zero hz _ (.head _)
  have z1 : inR m.Iounit_ 0 8192 = 0 := first_zero hz _ (.tail _ (.head _))
  have w_q : Wr m .q := by obtain ⟨a, b⟩ := qidR_zero h.qid z0; exact ⟨b, a⟩
  have w_i : Wr m .i := by obtain ⟨a, b⟩ := inR_zero z1; exact ⟨encN_ex (n := m.Iounit_) (by omega) (by omega), by show m.Iounit_ ≤ _; omega⟩
  intro k hk
  simp only [List.mem_cons, List.not_mem_nil, or_false] at hk
  rcases hk with rfl | rfl
  · exact w_q
  · exact w_i
theorem fields_114 (m : api_Msg) (hk : m.Kind_ = 114) (h : m.ok) : msg_fields m = some (firstR [inR m.Fid_ 0 4294967294, (if okName m.Name_ then (0 : Int) else 6), inR m.Perm_ 0 4294967295, inR m.Mode_ 0 255]) := by
  obtain ⟨_, h2, _, h4, h5⟩ := h.small
  unfold msg_fields
  rw [hk]
  simp only [Int.reduceBEq, BEq.rfl, cond_true, cond_false, Option.bind_some, in_eq, short_eq, fid_eq, qid_eq, qids_eq, names_eq _ h2, named_eq _ h4, check_eq _ h5 h5.2.2.2.2.2.2.2.1, first_eq _ (show List.length [_, _] ≤ 1000000 by simp), first_eq _ (show List.length [_, _, _] ≤ 1000000 by simp), first_eq _ (show List.length [_, _, _, _] ≤ 1000000 by simp)]
theorem wr_114 (m : api_Msg) (hk : m.Kind_ = 114) (h : m.ok) (hf : msg_fields m = some 0) : ∀ k ∈ ([.f, .N, .p, .M] : List Lt), Wr m k := by
  rw [fields_114 m hk h] at hf
  have hz := Option.some.inj hf
  have z0 : inR m.Fid_ 0 4294967294 = 0 := first_zero hz _ (.head _)
  have z1 : (if okName m.Name_ then (0 : Int) else 6) = 0 := first_zero hz _ (.tail _ (.head _))
  have z2 : inR m.Perm_ 0 4294967295 = 0 := first_zero hz _ (.tail _ (.tail _ (.head _)))
  have z3 : inR m.Mode_ 0 255 = 0 := first_zero hz _ (.tail _ (.tail _ (.tail _ (.head _))))
  have w_f : Wr m .f := by obtain ⟨a, b⟩ := inR_zero z0; exact ⟨encN_ex (n := m.Fid_) (by omega) (by omega), by show m.Fid_ ≤ _; omega⟩
  have w_N : Wr m .N := by have a := okName_len (okN_zero z1); exact ⟨encT_ex (s := m.Name_) (by omega), trivial⟩
  have w_p : Wr m .p := by obtain ⟨a, b⟩ := inR_zero z2; exact ⟨encN_ex (n := m.Perm_) (by omega) (by omega), by show m.Perm_ ≤ _; omega⟩
  have w_M : Wr m .M := by obtain ⟨a, b⟩ := inR_zero z3; exact ⟨encN_ex (n := m.Mode_) (by omega) (by omega), by show m.Mode_ ≤ _; omega⟩
  intro k hk
  simp only [List.mem_cons, List.not_mem_nil, or_false] at hk
  rcases hk with rfl | rfl | rfl | rfl
  · exact w_f
  · exact w_N
  · exact w_p
  · exact w_M
theorem fields_115 (m : api_Msg) (hk : m.Kind_ = 115) (h : m.ok) : msg_fields m = some (firstR [qidR m.Qid_, inR m.Iounit_ 0 8192]) := by
  obtain ⟨_, h2, _, h4, h5⟩ := h.small
  unfold msg_fields
  rw [hk]
  simp only [Int.reduceBEq, BEq.rfl, cond_true, cond_false, Option.bind_some, in_eq, short_eq, fid_eq, qid_eq, qids_eq, names_eq _ h2, named_eq _ h4, check_eq _ h5 h5.2.2.2.2.2.2.2.1, first_eq _ (show List.length [_, _] ≤ 1000000 by simp), first_eq _ (show List.length [_, _, _] ≤ 1000000 by simp), first_eq _ (show List.length [_, _, _, _] ≤ 1000000 by simp)]
theorem wr_115 (m : api_Msg) (hk : m.Kind_ = 115) (h : m.ok) (hf : msg_fields m = some 0) : ∀ k ∈ ([.q, .i] : List Lt), Wr m k := by
  rw [fields_115 m hk h] at hf
  have hz := Option.some.inj hf
  have z0 : qidR m.Qid_ = 0 := first_zero hz _ (.head _)
  have z1 : inR m.Iounit_ 0 8192 = 0 := first_zero hz _ (.tail _ (.head _))
  have w_q : Wr m .q := by obtain ⟨a, b⟩ := qidR_zero h.qid z0; exact ⟨b, a⟩
  have w_i : Wr m .i := by obtain ⟨a, b⟩ := inR_zero z1; exact ⟨encN_ex (n := m.Iounit_) (by omega) (by omega), by show m.Iounit_ ≤ _; omega⟩
  intro k hk
  simp only [List.mem_cons, List.not_mem_nil, or_false] at hk
  rcases hk with rfl | rfl
  · exact w_q
  · exact w_i
theorem fields_116 (m : api_Msg) (hk : m.Kind_ = 116) (h : m.ok) : msg_fields m = some (firstR [inR m.Fid_ 0 4294967294, inR m.Offset_ 0 9007199254740991, inR m.Count_ 0 8192, shortR m.Data_ 8168]) := by
  obtain ⟨_, h2, _, h4, h5⟩ := h.small
  unfold msg_fields
  rw [hk]
  simp only [Int.reduceBEq, BEq.rfl, cond_true, cond_false, Option.bind_some, in_eq, short_eq, fid_eq, qid_eq, qids_eq, names_eq _ h2, named_eq _ h4, check_eq _ h5 h5.2.2.2.2.2.2.2.1, first_eq _ (show List.length [_, _] ≤ 1000000 by simp), first_eq _ (show List.length [_, _, _] ≤ 1000000 by simp), first_eq _ (show List.length [_, _, _, _] ≤ 1000000 by simp)]
theorem wr_116 (m : api_Msg) (hk : m.Kind_ = 116) (h : m.ok) (hf : msg_fields m = some 0) : ∀ k ∈ ([.f, .O, .c] : List Lt), Wr m k := by
  rw [fields_116 m hk h] at hf
  have hz := Option.some.inj hf
  have z0 : inR m.Fid_ 0 4294967294 = 0 := first_zero hz _ (.head _)
  have z1 : inR m.Offset_ 0 9007199254740991 = 0 := first_zero hz _ (.tail _ (.head _))
  have z2 : inR m.Count_ 0 8192 = 0 := first_zero hz _ (.tail _ (.tail _ (.head _)))
  have z3 : shortR m.Data_ 8168 = 0 := first_zero hz _ (.tail _ (.tail _ (.tail _ (.head _))))
  have w_f : Wr m .f := by obtain ⟨a, b⟩ := inR_zero z0; exact ⟨encN_ex (n := m.Fid_) (by omega) (by omega), by show m.Fid_ ≤ _; omega⟩
  have w_O : Wr m .O := by obtain ⟨a, b⟩ := inR_zero z1; exact ⟨encN_ex (n := m.Offset_) (by omega) (by omega), by show m.Offset_ ≤ _; omega⟩
  have w_c : Wr m .c := by obtain ⟨a, b⟩ := inR_zero z2; exact ⟨encN_ex (n := m.Count_) (by omega) (by omega), by show m.Count_ ≤ _; omega⟩
  intro k hk
  simp only [List.mem_cons, List.not_mem_nil, or_false] at hk
  rcases hk with rfl | rfl | rfl
  · exact w_f
  · exact w_O
  · exact w_c
theorem fields_117 (m : api_Msg) (hk : m.Kind_ = 117) (h : m.ok) : msg_fields m = some (firstR [inR m.Fid_ 0 4294967294, inR m.Offset_ 0 9007199254740991, inR m.Count_ 0 8192, shortR m.Data_ 8168]) := by
  obtain ⟨_, h2, _, h4, h5⟩ := h.small
  unfold msg_fields
  rw [hk]
  simp only [Int.reduceBEq, BEq.rfl, cond_true, cond_false, Option.bind_some, in_eq, short_eq, fid_eq, qid_eq, qids_eq, names_eq _ h2, named_eq _ h4, check_eq _ h5 h5.2.2.2.2.2.2.2.1, first_eq _ (show List.length [_, _] ≤ 1000000 by simp), first_eq _ (show List.length [_, _, _] ≤ 1000000 by simp), first_eq _ (show List.length [_, _, _, _] ≤ 1000000 by simp)]
theorem wr_117 (m : api_Msg) (hk : m.Kind_ = 117) (h : m.ok) (hf : msg_fields m = some 0) : ∀ k ∈ ([.d] : List Lt), Wr m k := by
  rw [fields_117 m hk h] at hf
  have hz := Option.some.inj hf
  have z0 : inR m.Fid_ 0 4294967294 = 0 := first_zero hz _ (.head _)
  have z1 : inR m.Offset_ 0 9007199254740991 = 0 := first_zero hz _ (.tail _ (.head _))
  have z2 : inR m.Count_ 0 8192 = 0 := first_zero hz _ (.tail _ (.tail _ (.head _)))
  have z3 : shortR m.Data_ 8168 = 0 := first_zero hz _ (.tail _ (.tail _ (.tail _ (.head _))))
  have w_d : Wr m .d := by have a := shortR_zero z3; exact ⟨encD_ex (s := m.Data_) (by omega), trivial⟩
  intro k hk
  simp only [List.mem_cons, List.not_mem_nil, or_false] at hk
  subst hk; exact w_d
theorem fields_118 (m : api_Msg) (hk : m.Kind_ = 118) (h : m.ok) : msg_fields m = some (firstR [inR m.Fid_ 0 4294967294, inR m.Offset_ 0 9007199254740991, inR m.Count_ 0 8192, shortR m.Data_ 8168]) := by
  obtain ⟨_, h2, _, h4, h5⟩ := h.small
  unfold msg_fields
  rw [hk]
  simp only [Int.reduceBEq, BEq.rfl, cond_true, cond_false, Option.bind_some, in_eq, short_eq, fid_eq, qid_eq, qids_eq, names_eq _ h2, named_eq _ h4, check_eq _ h5 h5.2.2.2.2.2.2.2.1, first_eq _ (show List.length [_, _] ≤ 1000000 by simp), first_eq _ (show List.length [_, _, _] ≤ 1000000 by simp), first_eq _ (show List.length [_, _, _, _] ≤ 1000000 by simp)]
theorem wr_118 (m : api_Msg) (hk : m.Kind_ = 118) (h : m.ok) (hf : msg_fields m = some 0) : ∀ k ∈ ([.f, .O, .d] : List Lt), Wr m k := by
  rw [fields_118 m hk h] at hf
  have hz := Option.some.inj hf
  have z0 : inR m.Fid_ 0 4294967294 = 0 := first_zero hz _ (.head _)
  have z1 : inR m.Offset_ 0 9007199254740991 = 0 := first_zero hz _ (.tail _ (.head _))
  have z2 : inR m.Count_ 0 8192 = 0 := first_zero hz _ (.tail _ (.tail _ (.head _)))
  have z3 : shortR m.Data_ 8168 = 0 := first_zero hz _ (.tail _ (.tail _ (.tail _ (.head _))))
  have w_f : Wr m .f := by obtain ⟨a, b⟩ := inR_zero z0; exact ⟨encN_ex (n := m.Fid_) (by omega) (by omega), by show m.Fid_ ≤ _; omega⟩
  have w_O : Wr m .O := by obtain ⟨a, b⟩ := inR_zero z1; exact ⟨encN_ex (n := m.Offset_) (by omega) (by omega), by show m.Offset_ ≤ _; omega⟩
  have w_d : Wr m .d := by have a := shortR_zero z3; exact ⟨encD_ex (s := m.Data_) (by omega), trivial⟩
  intro k hk
  simp only [List.mem_cons, List.not_mem_nil, or_false] at hk
  rcases hk with rfl | rfl | rfl
  · exact w_f
  · exact w_O
  · exact w_d
theorem fields_119 (m : api_Msg) (hk : m.Kind_ = 119) (h : m.ok) : msg_fields m = some (firstR [inR m.Fid_ 0 4294967294, inR m.Offset_ 0 9007199254740991, inR m.Count_ 0 8192, shortR m.Data_ 8168]) := by
  obtain ⟨_, h2, _, h4, h5⟩ := h.small
  unfold msg_fields
  rw [hk]
  simp only [Int.reduceBEq, BEq.rfl, cond_true, cond_false, Option.bind_some, in_eq, short_eq, fid_eq, qid_eq, qids_eq, names_eq _ h2, named_eq _ h4, check_eq _ h5 h5.2.2.2.2.2.2.2.1, first_eq _ (show List.length [_, _] ≤ 1000000 by simp), first_eq _ (show List.length [_, _, _] ≤ 1000000 by simp), first_eq _ (show List.length [_, _, _, _] ≤ 1000000 by simp)]
theorem wr_119 (m : api_Msg) (hk : m.Kind_ = 119) (h : m.ok) (hf : msg_fields m = some 0) : ∀ k ∈ ([.c] : List Lt), Wr m k := by
  rw [fields_119 m hk h] at hf
  have hz := Option.some.inj hf
  have z0 : inR m.Fid_ 0 4294967294 = 0 := first_zero hz _ (.head _)
  have z1 : inR m.Offset_ 0 9007199254740991 = 0 := first_zero hz _ (.tail _ (.head _))
  have z2 : inR m.Count_ 0 8192 = 0 := first_zero hz _ (.tail _ (.tail _ (.head _)))
  have z3 : shortR m.Data_ 8168 = 0 := first_zero hz _ (.tail _ (.tail _ (.tail _ (.head _))))
  have w_c : Wr m .c := by obtain ⟨a, b⟩ := inR_zero z2; exact ⟨encN_ex (n := m.Count_) (by omega) (by omega), by show m.Count_ ≤ _; omega⟩
  intro k hk
  simp only [List.mem_cons, List.not_mem_nil, or_false] at hk
  subst hk; exact w_c
theorem fields_120 (m : api_Msg) (hk : m.Kind_ = 120) (h : m.ok) : msg_fields m = some (inR m.Fid_ 0 4294967294) := by
  obtain ⟨_, h2, _, h4, h5⟩ := h.small
  unfold msg_fields
  rw [hk]
  simp only [Int.reduceBEq, cond_false, Option.bind_some, in_eq, short_eq, fid_eq, qid_eq, qids_eq, names_eq _ h2, named_eq _ h4, check_eq _ h5 h5.2.2.2.2.2.2.2.1, first_eq _ (show List.length [_, _] ≤ 1000000 by simp), first_eq _ (show List.length [_, _, _] ≤ 1000000 by simp), first_eq _ (show List.length [_, _, _, _] ≤ 1000000 by simp)]
theorem wr_120 (m : api_Msg) (hk : m.Kind_ = 120) (h : m.ok) (hf : msg_fields m = some 0) : ∀ k ∈ ([.f] : List Lt), Wr m k := by
  rw [fields_120 m hk h] at hf
  have hz := Option.some.inj hf
  have z0 : inR m.Fid_ 0 4294967294 = 0 := hz
  have w_f : Wr m .f := by obtain ⟨a, b⟩ := inR_zero z0; exact ⟨encN_ex (n := m.Fid_) (by omega) (by omega), by show m.Fid_ ≤ _; omega⟩
  intro k hk
  simp only [List.mem_cons, List.not_mem_nil, or_false] at hk
  subst hk; exact w_f
theorem fields_121 (m : api_Msg) (hk : m.Kind_ = 121) (h : m.ok) : msg_fields m = some (inR m.Fid_ 0 4294967294) := by
  obtain ⟨_, h2, _, h4, h5⟩ := h.small
  unfold msg_fields
  rw [hk]
  simp only [Int.reduceBEq, cond_false, Option.bind_some, in_eq, short_eq, fid_eq, qid_eq, qids_eq, names_eq _ h2, named_eq _ h4, check_eq _ h5 h5.2.2.2.2.2.2.2.1, first_eq _ (show List.length [_, _] ≤ 1000000 by simp), first_eq _ (show List.length [_, _, _] ≤ 1000000 by simp), first_eq _ (show List.length [_, _, _, _] ≤ 1000000 by simp)]
theorem wr_121 (m : api_Msg) (_ : m.Kind_ = 121) (_ : m.ok) (_ : msg_fields m = some 0) : ∀ k ∈ ([] : List Lt), Wr m k := by
  intro k hk; cases hk
theorem fields_122 (m : api_Msg) (hk : m.Kind_ = 122) (h : m.ok) : msg_fields m = some (inR m.Fid_ 0 4294967294) := by
  obtain ⟨_, h2, _, h4, h5⟩ := h.small
  unfold msg_fields
  rw [hk]
  simp only [Int.reduceBEq, cond_false, Option.bind_some, in_eq, short_eq, fid_eq, qid_eq, qids_eq, names_eq _ h2, named_eq _ h4, check_eq _ h5 h5.2.2.2.2.2.2.2.1, first_eq _ (show List.length [_, _] ≤ 1000000 by simp), first_eq _ (show List.length [_, _, _] ≤ 1000000 by simp), first_eq _ (show List.length [_, _, _, _] ≤ 1000000 by simp)]
theorem wr_122 (m : api_Msg) (hk : m.Kind_ = 122) (h : m.ok) (hf : msg_fields m = some 0) : ∀ k ∈ ([.f] : List Lt), Wr m k := by
  rw [fields_122 m hk h] at hf
  have hz := Option.some.inj hf
  have z0 : inR m.Fid_ 0 4294967294 = 0 := hz
  have w_f : Wr m .f := by obtain ⟨a, b⟩ := inR_zero z0; exact ⟨encN_ex (n := m.Fid_) (by omega) (by omega), by show m.Fid_ ≤ _; omega⟩
  intro k hk
  simp only [List.mem_cons, List.not_mem_nil, or_false] at hk
  subst hk; exact w_f
theorem fields_123 (m : api_Msg) (hk : m.Kind_ = 123) (h : m.ok) : msg_fields m = some (inR m.Fid_ 0 4294967294) := by
  obtain ⟨_, h2, _, h4, h5⟩ := h.small
  unfold msg_fields
  rw [hk]
  simp only [Int.reduceBEq, cond_false, Option.bind_some, in_eq, short_eq, fid_eq, qid_eq, qids_eq, names_eq _ h2, named_eq _ h4, check_eq _ h5 h5.2.2.2.2.2.2.2.1, first_eq _ (show List.length [_, _] ≤ 1000000 by simp), first_eq _ (show List.length [_, _, _] ≤ 1000000 by simp), first_eq _ (show List.length [_, _, _, _] ≤ 1000000 by simp)]
theorem wr_123 (m : api_Msg) (_ : m.Kind_ = 123) (_ : m.ok) (_ : msg_fields m = some 0) : ∀ k ∈ ([] : List Lt), Wr m k := by
  intro k hk; cases hk
theorem fields_124 (m : api_Msg) (hk : m.Kind_ = 124) (h : m.ok) : msg_fields m = some (inR m.Fid_ 0 4294967294) := by
  obtain ⟨_, h2, _, h4, h5⟩ := h.small
  unfold msg_fields
  rw [hk]
  simp only [Int.reduceBEq, cond_false, Option.bind_some, in_eq, short_eq, fid_eq, qid_eq, qids_eq, names_eq _ h2, named_eq _ h4, check_eq _ h5 h5.2.2.2.2.2.2.2.1, first_eq _ (show List.length [_, _] ≤ 1000000 by simp), first_eq _ (show List.length [_, _, _] ≤ 1000000 by simp), first_eq _ (show List.length [_, _, _, _] ≤ 1000000 by simp)]
theorem wr_124 (m : api_Msg) (hk : m.Kind_ = 124) (h : m.ok) (hf : msg_fields m = some 0) : ∀ k ∈ ([.f] : List Lt), Wr m k := by
  rw [fields_124 m hk h] at hf
  have hz := Option.some.inj hf
  have z0 : inR m.Fid_ 0 4294967294 = 0 := hz
  have w_f : Wr m .f := by obtain ⟨a, b⟩ := inR_zero z0; exact ⟨encN_ex (n := m.Fid_) (by omega) (by omega), by show m.Fid_ ≤ _; omega⟩
  intro k hk
  simp only [List.mem_cons, List.not_mem_nil, or_false] at hk
  subst hk; exact w_f
theorem fields_125 (m : api_Msg) (hk : m.Kind_ = 125) (h : m.ok) : msg_fields m = some (firstR [inR m.Fid_ 0 4294967294, checkR m.Stat_]) := by
  obtain ⟨_, h2, _, h4, h5⟩ := h.small
  unfold msg_fields
  rw [hk]
  simp only [Int.reduceBEq, BEq.rfl, cond_true, cond_false, Option.bind_some, in_eq, short_eq, fid_eq, qid_eq, qids_eq, names_eq _ h2, named_eq _ h4, check_eq _ h5 h5.2.2.2.2.2.2.2.1, first_eq _ (show List.length [_, _] ≤ 1000000 by simp), first_eq _ (show List.length [_, _, _] ≤ 1000000 by simp), first_eq _ (show List.length [_, _, _, _] ≤ 1000000 by simp)]
theorem wr_125 (m : api_Msg) (hk : m.Kind_ = 125) (h : m.ok) (hf : msg_fields m = some 0) : ∀ k ∈ ([.S] : List Lt), Wr m k := by
  rw [fields_125 m hk h] at hf
  have hz := Option.some.inj hf
  have z0 : inR m.Fid_ 0 4294967294 = 0 := first_zero hz _ (.head _)
  have z1 : checkR m.Stat_ = 0 := first_zero hz _ (.tail _ (.head _))
  have w_S : Wr m .S := ⟨encS_ex z1, trivial⟩
  intro k hk
  simp only [List.mem_cons, List.not_mem_nil, or_false] at hk
  subst hk; exact w_S
theorem fields_126 (m : api_Msg) (hk : m.Kind_ = 126) (h : m.ok) : msg_fields m = some (firstR [inR m.Fid_ 0 4294967294, checkR m.Stat_]) := by
  obtain ⟨_, h2, _, h4, h5⟩ := h.small
  unfold msg_fields
  rw [hk]
  simp only [Int.reduceBEq, BEq.rfl, cond_true, cond_false, Option.bind_some, in_eq, short_eq, fid_eq, qid_eq, qids_eq, names_eq _ h2, named_eq _ h4, check_eq _ h5 h5.2.2.2.2.2.2.2.1, first_eq _ (show List.length [_, _] ≤ 1000000 by simp), first_eq _ (show List.length [_, _, _] ≤ 1000000 by simp), first_eq _ (show List.length [_, _, _, _] ≤ 1000000 by simp)]
theorem wr_126 (m : api_Msg) (hk : m.Kind_ = 126) (h : m.ok) (hf : msg_fields m = some 0) : ∀ k ∈ ([.f, .S] : List Lt), Wr m k := by
  rw [fields_126 m hk h] at hf
  have hz := Option.some.inj hf
  have z0 : inR m.Fid_ 0 4294967294 = 0 := first_zero hz _ (.head _)
  have z1 : checkR m.Stat_ = 0 := first_zero hz _ (.tail _ (.head _))
  have w_f : Wr m .f := by obtain ⟨a, b⟩ := inR_zero z0; exact ⟨encN_ex (n := m.Fid_) (by omega) (by omega), by show m.Fid_ ≤ _; omega⟩
  have w_S : Wr m .S := ⟨encS_ex z1, trivial⟩
  intro k hk
  simp only [List.mem_cons, List.not_mem_nil, or_false] at hk
  rcases hk with rfl | rfl
  · exact w_f
  · exact w_S
theorem fields_127 (m : api_Msg) (hk : m.Kind_ = 127) (h : m.ok) : msg_fields m = some (inR m.Fid_ 0 4294967294) := by
  obtain ⟨_, h2, _, h4, h5⟩ := h.small
  unfold msg_fields
  rw [hk]
  simp only [Int.reduceBEq, cond_false, Option.bind_some, in_eq, short_eq, fid_eq, qid_eq, qids_eq, names_eq _ h2, named_eq _ h4, check_eq _ h5 h5.2.2.2.2.2.2.2.1, first_eq _ (show List.length [_, _] ≤ 1000000 by simp), first_eq _ (show List.length [_, _, _] ≤ 1000000 by simp), first_eq _ (show List.length [_, _, _, _] ≤ 1000000 by simp)]
theorem wr_127 (m : api_Msg) (_ : m.Kind_ = 127) (_ : m.ok) (_ : msg_fields m = some 0) : ∀ k ∈ ([] : List Lt), Wr m k := by
  intro k hk; cases hk
theorem fields_128 (m : api_Msg) (hk : m.Kind_ = 128) (h : m.ok) : msg_fields m = some (firstR [inR m.Fid_ 0 4294967294, qidR m.Qid_, inR m.Lease_ 0 2, inR m.Term_ 0 1048576]) := by
  obtain ⟨_, h2, _, h4, h5⟩ := h.small
  unfold msg_fields
  rw [hk]
  simp only [Int.reduceBEq, BEq.rfl, cond_true, cond_false, Option.bind_some, in_eq, short_eq, fid_eq, qid_eq, qids_eq, names_eq _ h2, named_eq _ h4, check_eq _ h5 h5.2.2.2.2.2.2.2.1, first_eq _ (show List.length [_, _] ≤ 1000000 by simp), first_eq _ (show List.length [_, _, _] ≤ 1000000 by simp), first_eq _ (show List.length [_, _, _, _] ≤ 1000000 by simp)]
theorem wr_128 (m : api_Msg) (hk : m.Kind_ = 128) (h : m.ok) (hf : msg_fields m = some 0) : ∀ k ∈ ([.f, .l, .t] : List Lt), Wr m k := by
  rw [fields_128 m hk h] at hf
  have hz := Option.some.inj hf
  have z0 : inR m.Fid_ 0 4294967294 = 0 := first_zero hz _ (.head _)
  have z1 : qidR m.Qid_ = 0 := first_zero hz _ (.tail _ (.head _))
  have z2 : inR m.Lease_ 0 2 = 0 := first_zero hz _ (.tail _ (.tail _ (.head _)))
  have z3 : inR m.Term_ 0 1048576 = 0 := first_zero hz _ (.tail _ (.tail _ (.tail _ (.head _))))
  have w_f : Wr m .f := by obtain ⟨a, b⟩ := inR_zero z0; exact ⟨encN_ex (n := m.Fid_) (by omega) (by omega), by show m.Fid_ ≤ _; omega⟩
  have w_l : Wr m .l := by obtain ⟨a, b⟩ := inR_zero z2; exact ⟨encN_ex (n := m.Lease_) (by omega) (by omega), by show m.Lease_ ≤ _; omega⟩
  have w_t : Wr m .t := by obtain ⟨a, b⟩ := inR_zero z3; exact ⟨encN_ex (n := m.Term_) (by omega) (by omega), by show m.Term_ ≤ _; omega⟩
  intro k hk
  simp only [List.mem_cons, List.not_mem_nil, or_false] at hk
  rcases hk with rfl | rfl | rfl
  · exact w_f
  · exact w_l
  · exact w_t
theorem fields_129 (m : api_Msg) (hk : m.Kind_ = 129) (h : m.ok) : msg_fields m = some (firstR [inR m.Fid_ 0 4294967294, qidR m.Qid_, inR m.Lease_ 0 2, inR m.Term_ 0 1048576]) := by
  obtain ⟨_, h2, _, h4, h5⟩ := h.small
  unfold msg_fields
  rw [hk]
  simp only [Int.reduceBEq, BEq.rfl, cond_true, cond_false, Option.bind_some, in_eq, short_eq, fid_eq, qid_eq, qids_eq, names_eq _ h2, named_eq _ h4, check_eq _ h5 h5.2.2.2.2.2.2.2.1, first_eq _ (show List.length [_, _] ≤ 1000000 by simp), first_eq _ (show List.length [_, _, _] ≤ 1000000 by simp), first_eq _ (show List.length [_, _, _, _] ≤ 1000000 by simp)]
theorem wr_129 (m : api_Msg) (hk : m.Kind_ = 129) (h : m.ok) (hf : msg_fields m = some 0) : ∀ k ∈ ([.q, .l, .t] : List Lt), Wr m k := by
  rw [fields_129 m hk h] at hf
  have hz := Option.some.inj hf
  have z0 : inR m.Fid_ 0 4294967294 = 0 := first_zero hz _ (.head _)
  have z1 : qidR m.Qid_ = 0 := first_zero hz _ (.tail _ (.head _))
  have z2 : inR m.Lease_ 0 2 = 0 := first_zero hz _ (.tail _ (.tail _ (.head _)))
  have z3 : inR m.Term_ 0 1048576 = 0 := first_zero hz _ (.tail _ (.tail _ (.tail _ (.head _))))
  have w_q : Wr m .q := by obtain ⟨a, b⟩ := qidR_zero h.qid z1; exact ⟨b, a⟩
  have w_l : Wr m .l := by obtain ⟨a, b⟩ := inR_zero z2; exact ⟨encN_ex (n := m.Lease_) (by omega) (by omega), by show m.Lease_ ≤ _; omega⟩
  have w_t : Wr m .t := by obtain ⟨a, b⟩ := inR_zero z3; exact ⟨encN_ex (n := m.Term_) (by omega) (by omega), by show m.Term_ ≤ _; omega⟩
  intro k hk
  simp only [List.mem_cons, List.not_mem_nil, or_false] at hk
  rcases hk with rfl | rfl | rfl
  · exact w_q
  · exact w_l
  · exact w_t
theorem fields_130 (m : api_Msg) (hk : m.Kind_ = 130) (h : m.ok) : msg_fields m = some (shortR m.Session_ 64) := by
  obtain ⟨_, h2, _, h4, h5⟩ := h.small
  unfold msg_fields
  rw [hk]
  simp only [Int.reduceBEq, BEq.rfl, cond_true, cond_false, Option.bind_some, in_eq, short_eq, fid_eq, qid_eq, qids_eq, names_eq _ h2, named_eq _ h4, check_eq _ h5 h5.2.2.2.2.2.2.2.1, first_eq _ (show List.length [_, _] ≤ 1000000 by simp), first_eq _ (show List.length [_, _, _] ≤ 1000000 by simp), first_eq _ (show List.length [_, _, _, _] ≤ 1000000 by simp)]
theorem wr_130 (m : api_Msg) (hk : m.Kind_ = 130) (h : m.ok) (hf : msg_fields m = some 0) : ∀ k ∈ ([.s] : List Lt), Wr m k := by
  rw [fields_130 m hk h] at hf
  have hz := Option.some.inj hf
  have z0 : shortR m.Session_ 64 = 0 := hz
  have w_s : Wr m .s := by have a := shortR_zero z0; exact ⟨encT_ex (s := m.Session_) (by omega), trivial⟩
  intro k hk
  simp only [List.mem_cons, List.not_mem_nil, or_false] at hk
  subst hk; exact w_s
theorem fields_131 (m : api_Msg) (hk : m.Kind_ = 131) (h : m.ok) : msg_fields m = some (inR m.Fid_ 0 4294967294) := by
  obtain ⟨_, h2, _, h4, h5⟩ := h.small
  unfold msg_fields
  rw [hk]
  simp only [Int.reduceBEq, cond_false, Option.bind_some, in_eq, short_eq, fid_eq, qid_eq, qids_eq, names_eq _ h2, named_eq _ h4, check_eq _ h5 h5.2.2.2.2.2.2.2.1, first_eq _ (show List.length [_, _] ≤ 1000000 by simp), first_eq _ (show List.length [_, _, _] ≤ 1000000 by simp), first_eq _ (show List.length [_, _, _, _] ≤ 1000000 by simp)]
theorem wr_131 (m : api_Msg) (_ : m.Kind_ = 131) (_ : m.ok) (_ : msg_fields m = some 0) : ∀ k ∈ ([] : List Lt), Wr m k := by
  intro k hk; cases hk
end Go.Proofs.YtboplmpnjepdnaaGreat

/-
  Plain laws: what was written is read back. No program in sight.
-/
namespace Go.Proofs.YtboplmpnjepdnaaGreat
open Go.Rt Go.RowKit

theorem b8_inj {j k : Lt} (h : j.b8 = k.b8) : j = k := by
  have h1 := congrArg UInt8.toNat h
  rw [j.b8_nat, k.b8_nat] at h1
  cases j <;> cases k <;> first | rfl | exact absurd h1 (by decide)
theorem layB_inj : ∀ {a b : List Lt}, layB a = layB b → a = b
  | [], [], _ => rfl
  | [], _ :: _, h => by cases h
  | _ :: _, [], h => by cases h
  | j :: l, k :: l', h => by
    simp only [layB, List.map_cons, List.cons.injEq] at h
    rw [b8_inj h.1, layB_inj h.2]
theorem lay_wr (m : api_Msg) {t : Str} (h : msg_Name m.Kind_ = some t) (ht : t ≠ []) (hok : m.ok) (hf : msg_fields m = some 0) : ∃ l : List Lt, wire_layout m.Kind_ = some (layB l) ∧ l.length ≤ 100 ∧ msg_only m = some (cps l m (zeroM m.Kind_ m.Tag_)) ∧ (∀ k ∈ l, Wr m k) ∧ ∃ u, encN m.Kind_ 1 = some u ∧ m.Kind_ ≤ 1000 := by
  have hk := named_kind h ht
  obtain ⟨l, h1, _, h2, h3⟩ := lay_only m h ht
  have key : ∀ l' : List Lt, wire_layout m.Kind_ = some (layB l') → (∀ k ∈ l', Wr m k) → ∀ k ∈ l, Wr m k := fun l' h1' h' => by
    rw [h1'] at h1
    rw [← layB_inj (Option.some.inj h1)]
    exact h'
  refine ⟨l, h1, h2, h3, ?_, ?_⟩
  · rcases hk with hk | hk | hk | hk | hk | hk | hk | hk | hk | hk | hk | hk | hk | hk | hk | hk | hk | hk | hk | hk | hk | hk | hk | hk | hk | hk | hk | hk | hk | hk | hk
    · exact key [.m, .v] (by rw [hk]; rfl) (wr_100 m hk hok hf)
    · exact key [.m, .v, .s] (by rw [hk]; rfl) (wr_101 m hk hok hf)
    · exact key [.a, .u, .x] (by rw [hk]; rfl) (wr_102 m hk hok hf)
    · exact key [.q] (by rw [hk]; rfl) (wr_103 m hk hok hf)
    · exact key [.f, .a, .u, .x] (by rw [hk]; rfl) (wr_104 m hk hok hf)
    · exact key [.q] (by rw [hk]; rfl) (wr_105 m hk hok hf)
    · exact key [.e] (by rw [hk]; rfl) (wr_107 m hk hok hf)
    · exact key [.o] (by rw [hk]; rfl) (wr_108 m hk hok hf)
    · exact key [] (by rw [hk]; rfl) (wr_109 m hk hok hf)
    · exact key [.f, .n, .w] (by rw [hk]; rfl) (wr_110 m hk hok hf)
    · exact key [.W] (by rw [hk]; rfl) (wr_111 m hk hok hf)
    · exact key [.f, .M] (by rw [hk]; rfl) (wr_112 m hk hok hf)
    · exact key [.q, .i] (by rw [hk]; rfl) (wr_113 m hk hok hf)
    · exact key [.f, .N, .p, .M] (by rw [hk]; rfl) (wr_114 m hk hok hf)
    · exact key [.q, .i] (by rw [hk]; rfl) (wr_115 m hk hok hf)
    · exact key [.f, .O, .c] (by rw [hk]; rfl) (wr_116 m hk hok hf)
    · exact key [.d] (by rw [hk]; rfl) (wr_117 m hk hok hf)
    · exact key [.f, .O, .d] (by rw [hk]; rfl) (wr_118 m hk hok hf)
    · exact key [.c] (by rw [hk]; rfl) (wr_119 m hk hok hf)
    · exact key [.f] (by rw [hk]; rfl) (wr_120 m hk hok hf)
    · exact key [] (by rw [hk]; rfl) (wr_121 m hk hok hf)
    · exact key [.f] (by rw [hk]; rfl) (wr_122 m hk hok hf)
    · exact key [] (by rw [hk]; rfl) (wr_123 m hk hok hf)
    · exact key [.f] (by rw [hk]; rfl) (wr_124 m hk hok hf)
    · exact key [.S] (by rw [hk]; rfl) (wr_125 m hk hok hf)
    · exact key [.f, .S] (by rw [hk]; rfl) (wr_126 m hk hok hf)
    · exact key [] (by rw [hk]; rfl) (wr_127 m hk hok hf)
    · exact key [.f, .l, .t] (by rw [hk]; rfl) (wr_128 m hk hok hf)
    · exact key [.q, .l, .t] (by rw [hk]; rfl) (wr_129 m hk hok hf)
    · exact key [.s] (by rw [hk]; rfl) (wr_130 m hk hok hf)
    · exact key [] (by rw [hk]; rfl) (wr_131 m hk hok hf)
  · have : 0 ≤ m.Kind_ ∧ m.Kind_ ≤ 255 := by omega
    obtain ⟨u, hu⟩ := encN_ex (n := m.Kind_) (w := 1) (by omega) (by omega)
    exact ⟨u, hu, by omega⟩
theorem tagged_enc (m : api_Msg) (h : msg_tagged m = some true) : (∃ t, encN m.Tag_ 2 = some t) ∧ m.Tag_ ≤ 65535 := by
  have key : 0 ≤ m.Tag_ ∧ m.Tag_ ≤ 65535 := by
    unfold msg_tagged at h
    cases h1 : (m.Kind_ == 100) <;> cases h2 : (m.Kind_ == 101) <;> cases h3 : (m.Kind_ == 107) <;> rw [h1, h2, h3] at h <;> simp at h <;> omega
  exact ⟨encN_ex (by omega) (by omega), key.2⟩
/-- What a message that passes the check is. -/
theorem check_zero (m : api_Msg) (hok : m.ok) (h : msg_Check m = some 0) : ∃ (l : List Lt) (nm : Str), msg_Name m.Kind_ = some nm ∧ (nm == []) = false ∧ wire_layout m.Kind_ = some (layB l) ∧ l.length ≤ 100 ∧ m = cps l m (zeroM m.Kind_ m.Tag_) ∧ (∀ k ∈ l, Wr m k) ∧ (∃ u, encN m.Kind_ 1 = some u) ∧ (∃ u, encN m.Tag_ 2 = some u) ∧ m.Kind_ ≤ 1000 ∧ m.Tag_ ≤ 65535 := by
  unfold msg_Check at h
  obtain ⟨nm, e1⟩ := Option.get_some (name_some m.Kind_)
  rw [e1, Option.bind_some] at h
  cases hn : (nm == []) with
  | true => rw [hn] at h; cases h
  | false =>
    rw [hn, cond_false] at h
    have hne : nm ≠ [] := by simpa using hn
    obtain ⟨g, e2⟩ := Option.get_some (tagged_some m)
    rw [e2, Option.bind_some] at h
    cases g with
    | false => cases h
    | true =>
      obtain ⟨l0, _, _, _, e3⟩ := lay_only m e1 hne
      rw [e3, Option.bind_some] at h
      have hx := cps_small l0 hok.small.1 hok.small.2.2.1 (m := zeroM m.Kind_ m.Tag_) (by simp [zeroM]) (by simp [zeroM])
      rw [same_eq _ m hx.1 hx.2, Option.bind_some] at h
      cases hd : decide (cps l0 m (zeroM m.Kind_ m.Tag_) = m) with
      | false => rw [hd] at h; cases h
      | true =>
        rw [hd] at h
        have hf : msg_fields m = some 0 := by
          obtain ⟨c, ec⟩ := Option.get_some (fields_some m hok.small)
          rw [ec] at h ⊢
          exact h
        obtain ⟨l, e4, e5, e6, e7, u, e8, e9⟩ := lay_wr m e1 hne hok hf
        obtain ⟨e10, e11⟩ := tagged_enc m e2
        rw [e6] at e3
        refine ⟨l, nm, e1, hn, e4, e5, ?_, e7, ⟨u, e8⟩, e10, e9, e11⟩
        rw [Option.some.inj e3]
        exact (of_decide_eq_true hd).symm
theorem encN_len {n : Int} {w : Nat} {t : Str} (h : encN n w = some t) : t.length = w := by rw [(encN_some h).2, leB_len]
theorem encs_len {α : Type} {f : α → Option Str} (B : Nat) (hf : ∀ x t, f x = some t → t.length ≤ B) : ∀ {l : List α} {t : Str}, encs f l = some t → t.length ≤ B * l.length
  | [], t, h => by cases h; simp
  | x :: l, t, h => by
    obtain ⟨u, v, e1, e2, rfl⟩ := encs_cons h
    have h1 := hf x u e1
    have h2 := encs_len B hf e2
    rw [List.length_append, List.length_cons, Nat.mul_add]
    omega
theorem encT_len {s t : Str} (h : encT s = some t) : t.length ≤ 65537 := by
  obtain ⟨h1, rfl⟩ := encT_some h
  rw [textB_len]; omega
theorem encQ_len {q : api_Qid} {t : Str} (h : encQ q = some t) : t.length ≤ 13 := by
  obtain ⟨_, _, _, rfl⟩ := encQ_some h
  simp [leB_len]
theorem encF_len (k : Lt) (m : api_Msg) {t : Str} (h : encF k m = some t) : t.length ≤ 17179869184 := by
  have N : ∀ {n : Int} {w : Nat}, w ≤ 8 → encN n w = some t → t.length ≤ 17179869184 := fun hw h => by have := encN_len h; omega
  have T : ∀ {s : Str}, encT s = some t → t.length ≤ 17179869184 := fun h => by have := encT_len h; omega
  cases k with
  | v => exact T h
  | s => exact T h
  | u => exact T h
  | x => exact T h
  | e => exact T h
  | N => exact T h
  | q => have := encQ_len (q := m.Qid_) h; omega
  | w =>
    obtain ⟨h1, b, h2, rfl⟩ := encL_some (f := encT) (l := m.Names_) h
    have h3 := encs_len 65537 (fun _ _ h => encT_len h) h2
    have h4 : 65537 * m.Names_.length ≤ 65537 * 65535 := Nat.mul_le_mul_left _ h1
    rw [List.length_append, leB_len]; omega
  | W =>
    obtain ⟨h1, b, h2, rfl⟩ := encL_some (f := encQ) (l := m.Qids_) h
    have h3 := encs_len 13 (fun _ _ h => encQ_len h) h2
    rw [List.length_append, leB_len]; omega
  | d =>
    obtain ⟨h1, rfl⟩ := encD_some (s := m.Data_) h
    unfold fitsW at h1
    simp only [Bool.and_eq_true, Bool.or_eq_true, decide_eq_true_eq] at h1
    rw [List.length_append, leB_len]; omega
  | S =>
    obtain ⟨h1, rfl⟩ := encS_some (d := m.Stat_) h
    obtain ⟨l1, l2, l3, l4⟩ := texts_len m.Stat_ (checkR_zero m.Stat_ h1).2
    rw [List.length_append, leB_len, putB_len]; omega
  | _ => exact N (by omega) h
/-- A message that was written, read from among other bytes. -/
theorem get_back (m : api_Msg) (p q t : Str) (l : List Lt) (nm : Str) (hc : msg_Check m = some 0) (e1 : msg_Name m.Kind_ = some nm) (hn : (nm == []) = false) (e2 : wire_layout m.Kind_ = some (layB l)) (hl : l.length ≤ 100) (hm : m = cps l m (zeroM m.Kind_ m.Tag_)) (hw : ∀ k ∈ l, Wr m k)
    (hk : m.Kind_ ≤ 1000) (hg : m.Tag_ ≤ 65535) (he : app2 (encN m.Kind_ 1) (app2 (encN m.Tag_ 2) (encA l m)) = some t) (ht : t.length + 4 ≤ 8192) (hp : p.length ≤ 1000) (hq : q.length ≤ 1000) :
    wire_Get (p ++ (leB ((t.length + 4 : Nat) : Int) 4 ++ t) ++ q) (p.length : Int) = some (m, ((p.length + (t.length + 4) : Nat) : Int), 0) := by
  obtain ⟨t1, u, k1, ku, htu⟩ := app2_some he
  obtain ⟨t2, t3, k2, k3, rfl⟩ := app2_some ku
  have n1 := encN_len k1
  have n2 := encN_len k2
  have hB : BIG = 18446744073709551616 := rfl
  generalize hz : t.length + 4 = z at ht ⊢
  have hz7 : 7 ≤ z := by rw [← hz, htu]; simp only [List.length_append]; omega
  have hb4 : (leB (z : Int) 4).length = 4 := leB_len _ _
  generalize hy : leB (z : Int) 4 ++ t = y
  have hyl : y.length = z := by rw [← hy, List.length_append, hb4]; omega
  have hsl : (p ++ y ++ q).length = p.length + z + q.length := by simp [hyl]; omega
  have hwin : win (p ++ y ++ q) p.length z = y := win_at _ p y q _ _ rfl rfl hyl
  have hwin4 : win (p ++ y ++ q) p.length 4 = leB (z : Int) 4 := win_at _ p (leB (z : Int) 4) (t ++ q) _ _ (by rw [← hy]; simp [List.append_assoc]) rfl hb4
  have e0 := get_eq (p ++ y ++ q) p.length 4 (by omega) (by omega) (by omega) (by omega)
  rw [hwin4, leV_leL 4 z (by omega), if_neg (by omega), if_neg (by omega)] at e0
  have hat : At y 4 t := by
    refine ⟨?_, by omega⟩
    exact win_at y (leB (z : Int) 4) t [] 4 t.length (by rw [← hy]; simp) hb4 rfl
  rw [htu] at hat
  obtain ⟨a1, a23⟩ := hat.split
  obtain ⟨a2, a3⟩ := a23.split
  rw [n1] at a2 a3
  rw [n2] at a3
  have b1 := bnum (w := 1) (by omega) (by omega) k1 (by omega) a1 (by omega)
  have b2 := bnum (w := 2) (by omega) (by omega) k2 (by omega) a2 (by omega)
  have b3 := bloop y (by omega) l hl m l BIG 0 (4 + 1 + 2) (zeroM m.Kind_ m.Tag_) t3 rfl (by omega) (by omega) k3 (fun k hk => (hw k hk).2) a3
  rw [← hm] at b3
  rw [n1] at b1
  rw [n2] at b2
  have hend : 4 + 1 + 2 + t3.length = z := by rw [← hz, htu]; simp only [List.length_append]; omega
  rw [hend] at b3
  have es := win_sub (p ++ y ++ q) p.length z (by omega) (by omega)
  rw [hwin] at es
  have el : w64 (((p ++ y ++ q).length : Int) - (p.length : Int)) = (((p ++ y ++ q).length - p.length : Nat) : Int) := by rw [w64_eq ⟨by omega, by omega⟩]; omega
  have h3 : decide ((z : Int) > 8192) = false := by simp; omega
  have h4 : decide ((z : Int) < 7) = false := by simp; omega
  have h5 : decide ((z : Int) > w64 (((p ++ y ++ q).length : Int) - (p.length : Int))) = false := by rw [el]; simp; omega
  unfold wire_Get
  refine bind_eq e0 (cond_f rfl (cond_f h3 (cond_f h4 (cond_f h5 (bind_eq es (bind_eq b1 (bind_eq b2 (bind_eq e2 (bind_eq b3 (bind_eq e1 (cond_f ?_ (bind_eq hc (cond_f rfl ?_)))))))))))))
  · show (((nm == []) || (!true)) || ((z : Int) != (z : Int))) = false
    rw [hn]; simp
  · show some (m, w64 ((p.length : Int) + (z : Int)), (0 : Int)) = _
    rw [w64_eq ⟨by omega, by omega⟩]
    rfl
theorem small_loop (x : api_Msg) (hx : x.Names_.length ≤ 9223372036854775807) : ∀ (k fuel i : Nat) (s : Int), i + k = x.Names_.length → k < fuel → ∃ r, loopF (law09_small_L1 x) fuel (s, (i : Int)) = some r
  | 0, 0, _, _, _, h => absurd h (Nat.lt_irrefl _)
  | _ + 1, 0, _, _, _, h => absurd h (Nat.not_lt_zero _)
  | 0, fuel + 1, i, s, hi, _ => by
    refine ⟨s, loop_done ?_⟩
    unfold law09_small_L1
    exact cond_f (by simp; omega) rfl
  | k + 1, fuel + 1, i, s, hi, hk => by
    have hlt : i < x.Names_.length := by omega
    obtain ⟨r, hr⟩ := small_loop x hx k fuel (i + 1) (w64 ((minI s 100000) + (minI ((x.Names_[i]).length : Int) 100000))) (by omega) (by omega)
    refine ⟨r, loop_next ?_ hr⟩
    unfold law09_small_L1
    refine cond_t (by simp; omega) (bind_eq (getI_lt hlt) ?_)
    rw [w64_eq (n := (i : Int) + 1) ⟨by omega, by omega⟩]; rfl
theorem small_some (x : api_Msg) (hx : x.Names_.length ≤ 9223372036854775807) : ∃ b, law09_small x = some b := by
  have hB : BIG = 18446744073709551616 := rfl
  unfold law09_small
  obtain ⟨r, hr⟩ := small_loop x hx x.Names_.length BIG 0 _ (by omega) (by omega)
  exact ⟨_, bind_eq hr rfl⟩
theorem fit_msg (x : api_Msg) (h : Fit te (.st 2) x) : x.ok := by
  have h1 := h 1
  obtain ⟨k1, k2, k3, k4, k5, k6, k7, t1, t2, t3, ⟨nl, nm⟩, ⟨ql, qm⟩, q1, q2, q3, i1, i2, i3, t4, i4, i5, t5, d1, d2, d3, d4, d5, d6, d7, d8, d9, s1, s2, s3, s4, e1, e2, e3, t6, _⟩ := h1
  refine ⟨⟨nl, fun s hs => (nm s hs).1, ql, t4, d1, d2, ⟨d3, d4, d5⟩, d6, d7, d8, d9, s1, s2, s3, s4⟩, fun q hq => ?_, q1, q2, q3⟩
  obtain ⟨a, b, c, _⟩ := qm q hq
  exact ⟨a, b, c⟩
end Go.Proofs.YtboplmpnjepdnaaGreat
