import Derived.Test.YtboplmpnjepdnaaGreatQx2
/-
  Plain laws: what the reference writes (numbers, texts, descriptions). No program in sight.
-/
namespace Go.Proofs.YtboplmpnjepdnaaGreat
open Go.Rt Go.RowKit

theorem ref_loop (s : Str) (h : s.length ≤ 9223372036854775807) : loopF (ref03_Valid_L1 s) BIG 0 = some (if s.all okByte then .fall () else .ret false) := path_loop s h
theorem ref_valid_eq (s : Str) (h : s.length ≤ 9223372036854775807) : ref03_Valid s = some (okName s) := by
  unfold ref03_Valid okName
  rw [ref_loop s h]
  simp only [Option.bind_some]
  have e1 : decide ((s.length : Int) ≥ 1) = decide (1 ≤ s.length) := by
    rw [Bool.eq_iff_iff]; simp only [decide_eq_true_eq]; omega
  have e2 : decide ((s.length : Int) ≤ 64) = decide (s.length ≤ 64) := by
    rw [Bool.eq_iff_iff]; simp only [decide_eq_true_eq]; omega
  rw [e1, e2]
  simp only [bne]
  cases decide (1 ≤ s.length) <;> cases decide (s.length ≤ 64) <;> cases (s == [46]) <;> cases (s == [46, 46]) <;> cases s.all okByte <;> simp

theorem refnums_eq (x : api_Dir) : ref07_Numbers x = some (okNums x) := by
  unfold ref07_Numbers ref07_sum ref07_in okNums okIn okBits
  simp only [Option.bind_some]
  generalize ((x.Type_ == -1) || (decide (x.Type_ ≥ 0) && decide (x.Type_ ≤ 65534))) = a1
  generalize ((x.Dev_ == -1) || (decide (x.Dev_ ≥ 0) && decide (x.Dev_ ≤ 4294967294))) = a2
  generalize ((x.Qid_.Type_ == -1) || (decide (x.Qid_.Type_ ≥ 0) && (andI .i64 x.Qid_.Type_ 232 == x.Qid_.Type_))) = a3
  generalize ((x.Qid_.Vers_ == -1) || (decide (x.Qid_.Vers_ ≥ 0) && decide (x.Qid_.Vers_ ≤ 2147483647))) = a4
  generalize ((x.Qid_.Path_ == -1) || (decide (x.Qid_.Path_ ≥ 0) && decide (x.Qid_.Path_ ≤ 1099511627776))) = a5
  generalize ((x.Mode_ == -1) || (decide (x.Mode_ ≥ 0) && (andI .i64 x.Mode_ 3892314623 == x.Mode_))) = a6
  generalize ((x.Atime_ == -1) || (decide (x.Atime_ ≥ 0) && decide (x.Atime_ ≤ 1099511627776))) = a7
  generalize ((x.Mtime_ == -1) || (decide (x.Mtime_ ≥ 0) && decide (x.Mtime_ ≤ 1099511627776))) = a8
  generalize ((x.Length_ == -1) || (decide (x.Length_ ≥ 0) && decide (x.Length_ ≤ 9007199254740991))) = a9
  cases a1 <;> cases a2 <;> cases a3 <;> cases a4 <;> cases a5 <;> cases a6 <;> cases a7 <;> cases a8 <;> cases a9 <;> rfl
theorem refcheck_eq (x : api_Dir) (hn : x.Name_.length ≤ 9223372036854775807) : ref07_Check x = some (checkR x) := by
  unfold ref07_Check checkR
  rw [refnums_eq, ref_valid_eq _ hn]
  simp only [Option.bind_some]
  have em : ∀ n : Nat, decide ((n : Int) > 64) = !decide (n ≤ 64) := fun n => by
    rw [Bool.eq_iff_iff]
    simp only [Bool.not_eq_true', decide_eq_true_eq, decide_eq_false_iff_not]
    omega
  rw [em, em, em]
  unfold okTexts
  cases okNums x <;> cases (x.Name_ == []) <;> cases (x.Name_ == [47]) <;> cases okName x.Name_ <;> cases decide (x.Uid_.length ≤ 64) <;> cases decide (x.Gid_.length ≤ 64) <;> cases decide (x.Muid_.length ≤ 64) <;> simp
theorem little_eq (n : Int) (w : Nat) (hw : w ≤ 8) : ref07_little n (w : Int) = some (leB n w) := by
  have hB : BIG = 18446744073709551616 := rfl
  unfold ref07_little
  have h := loop_traj (body := ref07_little_L1 (w : Int) n) (fun i => (leB n i, (i : Int))) w (by omega) (b := leB n w) (fun i hi => ?_) ?_
  · have e : leB n 0 = [] := rfl
    simp only [e] at h
    rw [show ((0 : Nat) : Int) = 0 from rfl] at h
    rw [h]; rfl
  · unfold ref07_little_L1
    have h1 : decide ((i : Int) < (w : Int)) = true := by simp; omega
    simp only [h1, cond_true]
    rw [shr_byte n i (by omega)]
    simp only [Option.bind_some]
    rw [cat_eq (by rw [leB_len]; simp [bytesS]; omega)]
    simp only [Option.bind_some]
    rw [w64_eq (n := (i : Int) + 1) ⟨by omega, by omega⟩, wu8, leB_succ]
    rfl
  · unfold ref07_little_L1
    have h1 : decide ((w : Int) < (w : Int)) = false := by simp
    simp only [h1, cond_false]
theorem counted_eq (s : Str) (h : s.length ≤ 100000) : ref07_counted s = some (textB s) := by
  unfold ref07_counted
  have h2 := little_eq (s.length : Int) 2 (by omega)
  rw [show ((2 : Nat) : Int) = 2 from rfl] at h2
  rw [h2]
  simp only [Option.bind_some]
  rw [cat_eq (by rw [leB_len]; omega)]
  rfl
theorem lit1 (n : Int) : ref07_little n 1 = some (leB n 1) := by
  have h := little_eq n 1 (by omega)
  rwa [show ((1 : Nat) : Int) = 1 from rfl] at h
theorem lit2 (n : Int) : ref07_little n 2 = some (leB n 2) := by
  have h := little_eq n 2 (by omega)
  rwa [show ((2 : Nat) : Int) = 2 from rfl] at h
theorem lit4 (n : Int) : ref07_little n 4 = some (leB n 4) := by
  have h := little_eq n 4 (by omega)
  rwa [show ((4 : Nat) : Int) = 4 from rfl] at h
theorem lit8 (n : Int) : ref07_little n 8 = some (leB n 8) := by
  have h := little_eq n 8 (by omega)
  rwa [show ((8 : Nat) : Int) = 8 from rfl] at h
theorem ref_put_eq (x : api_Dir) (hn : x.Name_.length ≤ 9223372036854775807) : ref07_Put x = some (putR x) := by
  unfold ref07_Put putR
  refine bind_eq (refcheck_eq x hn) ?_
  by_cases hc : checkR x = 0
  · obtain ⟨hN, hT⟩ := checkR_zero x hc
    have htl := texts_len x hT
    have c : (checkR x != 0) = false := by simp [hc]
    rw [if_pos hc]
    refine cond_f c ?_
    have l1 := lit1
    have l2 := lit2
    have l4 := lit4
    have l8 := lit8
    have hcat : ∀ a b : Str, a.length ≤ 1000 → b.length ≤ 1000 → cat a b = some (a ++ b) := fun a b ha hb => cat_eq (by omega)
    refine bind_eq (l1 _) ?_
    refine bind_eq (l4 _) ?_
    refine bind_eq (hcat _ _ (by simp [leB_len]) (by simp [leB_len])) ?_
    refine bind_eq (l8 _) ?_
    refine bind_eq (hcat _ _ (by simp [leB_len]) (by simp [leB_len])) ?_
    refine bind_eq (l2 _) ?_
    refine bind_eq (l4 _) ?_
    refine bind_eq (hcat _ _ (by simp [leB_len]) (by simp [leB_len])) ?_
    refine bind_eq (hcat _ _ (by simp [leB_len]) (by simp [leB_len])) ?_
    refine bind_eq (l4 _) ?_
    refine bind_eq (hcat _ _ (by simp [leB_len]) (by simp [leB_len])) ?_
    refine bind_eq (l8 _) ?_
    refine bind_eq (hcat _ _ (by simp [leB_len]) (by simp [leB_len])) ?_
    refine bind_eq (l8 _) ?_
    refine bind_eq (hcat _ _ (by simp [leB_len]) (by simp [leB_len])) ?_
    refine bind_eq (l8 _) ?_
    refine bind_eq (hcat _ _ (by simp [leB_len]) (by simp [leB_len])) ?_
    refine bind_eq (counted_eq x.Name_ (by omega)) ?_
    refine bind_eq (hcat _ _ (by simp [leB_len]) (by simp [textB_len]; omega)) ?_
    refine bind_eq (counted_eq x.Uid_ (by omega)) ?_
    refine bind_eq (hcat _ _ (by simp [leB_len, textB_len]; omega) (by simp [textB_len]; omega)) ?_
    refine bind_eq (counted_eq x.Gid_ (by omega)) ?_
    refine bind_eq (hcat _ _ (by simp [leB_len, textB_len]; omega) (by simp [textB_len]; omega)) ?_
    refine bind_eq (counted_eq x.Muid_ (by omega)) ?_
    refine bind_eq (hcat _ _ (by simp [leB_len, textB_len]; omega) (by simp [textB_len]; omega)) ?_
    have e : leB x.Type_ 2 ++ leB x.Dev_ 4 ++ (leB x.Qid_.Type_ 1 ++ leB x.Qid_.Vers_ 4 ++ leB x.Qid_.Path_ 8) ++ leB x.Mode_ 4 ++ leB x.Atime_ 8 ++ leB x.Mtime_ 8 ++ leB x.Length_ 8 ++ textB x.Name_ ++ textB x.Uid_ ++ textB x.Gid_ ++ textB x.Muid_ = bodyB x := by
      simp [bodyB, numsB]
    rw [e]
    refine bind_eq (l2 _) ?_
    refine bind_eq (cat_eq (by rw [leB_len, bodyB_len]; omega)) ?_
    simp only [putB]
  · have c : (checkR x != 0) = true := by simp [hc]
    rw [if_neg hc]
    exact cond_t c rfl
end Go.Proofs.YtboplmpnjepdnaaGreat

namespace Go.Proofs.YtboplmpnjepdnaaGreat
open Go.Rt Go.RowKit

/-- The reference's number of a field. -/
def Lt.num : Lt → Int
  | .m => 1 | .v => 2 | .s => 3 | .a => 4 | .u => 5 | .x => 6 | .q => 7 | .f => 8 | .e => 9 | .o => 10 | .n => 11 | .w => 12
  | .W => 13 | .M => 14 | .i => 15 | .N => 16 | .p => 17 | .O => 18 | .c => 19 | .d => 20 | .S => 21 | .l => 22 | .t => 23
end Go.Proofs.YtboplmpnjepdnaaGreat

/-
  Plain laws: the reference's check. No program in sight.
-/
namespace Go.Proofs.YtboplmpnjepdnaaGreat
open Go.Rt Go.RowKit

/-- Two messages agree in a field. -/
def eqF (k : Lt) (m m' : api_Msg) : Prop := match k with
  | .m => m.Msize_ = m'.Msize_
  | .v => m.Version_ = m'.Version_
  | .s => m.Session_ = m'.Session_
  | .a => m.AuthFid_ = m'.AuthFid_
  | .u => m.User_ = m'.User_
  | .x => m.Attach_ = m'.Attach_
  | .q => m.Qid_ = m'.Qid_
  | .f => m.Fid_ = m'.Fid_
  | .e => m.Err_ = m'.Err_
  | .o => m.OldTag_ = m'.OldTag_
  | .n => m.NewFid_ = m'.NewFid_
  | .w => m.Names_ = m'.Names_
  | .W => m.Qids_ = m'.Qids_
  | .M => m.Mode_ = m'.Mode_
  | .i => m.Iounit_ = m'.Iounit_
  | .N => m.Name_ = m'.Name_
  | .p => m.Perm_ = m'.Perm_
  | .O => m.Offset_ = m'.Offset_
  | .c => m.Count_ = m'.Count_
  | .d => m.Data_ = m'.Data_
  | .S => m.Stat_ = m'.Stat_
  | .l => m.Lease_ = m'.Lease_
  | .t => m.Term_ = m'.Term_
theorem eqF_cp (k : Lt) (m' m : api_Msg) : eqF k (cpF k m' m) m' := by cases k <;> rfl
theorem eqF_other (k k' : Lt) (h : k ≠ k') (m' m x : api_Msg) : eqF k (cpF k' m' m) x ↔ eqF k m x := by cases k <;> cases k' <;> first | exact absurd rfl h | exact Iff.rfl
theorem eqF_cps (k : Lt) (m' : api_Msg) : ∀ (l : List Lt) (m : api_Msg), eqF k (cps l m' m) m' ↔ (k ∈ l ∨ eqF k m m')
  | [], m => by simp [cps]
  | j :: l, m => by
    show eqF k (cps l m' (cpF j m' m)) m' ↔ _
    rw [eqF_cps k m' l]
    by_cases h : k = j
    · subst h
      simp [eqF_cp]
    · rw [eqF_other k j h]
      simp [h]
theorem msg_ext (m m' : api_Msg) : m = m' ↔ m.Kind_ = m'.Kind_ ∧ m.Tag_ = m'.Tag_ ∧ ∀ k, eqF k m m' := by
  constructor
  · rintro rfl
    exact ⟨rfl, rfl, fun k => by cases k <;> rfl⟩
  · rintro ⟨h1, h2, h⟩
    have h_m : m.Msize_ = m'.Msize_ := h .m
    have h_v : m.Version_ = m'.Version_ := h .v
    have h_s : m.Session_ = m'.Session_ := h .s
    have h_a : m.AuthFid_ = m'.AuthFid_ := h .a
    have h_u : m.User_ = m'.User_ := h .u
    have h_x : m.Attach_ = m'.Attach_ := h .x
    have h_q : m.Qid_ = m'.Qid_ := h .q
    have h_f : m.Fid_ = m'.Fid_ := h .f
    have h_e : m.Err_ = m'.Err_ := h .e
    have h_o : m.OldTag_ = m'.OldTag_ := h .o
    have h_n : m.NewFid_ = m'.NewFid_ := h .n
    have h_w : m.Names_ = m'.Names_ := h .w
    have h_W : m.Qids_ = m'.Qids_ := h .W
    have h_M : m.Mode_ = m'.Mode_ := h .M
    have h_i : m.Iounit_ = m'.Iounit_ := h .i
    have h_N : m.Name_ = m'.Name_ := h .N
    have h_p : m.Perm_ = m'.Perm_ := h .p
    have h_O : m.Offset_ = m'.Offset_ := h .O
    have h_c : m.Count_ = m'.Count_ := h .c
    have h_d : m.Data_ = m'.Data_ := h .d
    have h_S : m.Stat_ = m'.Stat_ := h .S
    have h_l : m.Lease_ = m'.Lease_ := h .l
    have h_t : m.Term_ = m'.Term_ := h .t
    cases m; cases m'
    simp only at h1 h2 h_m h_v h_s h_a h_u h_x h_q h_f h_e h_o h_n h_w h_W h_M h_i h_N h_p h_O h_c h_d h_S h_l h_t
    subst h1 h2 h_m h_v h_s h_a h_u h_x h_q h_f h_e h_o h_n h_w h_W h_M h_i h_N h_p h_O h_c h_d h_S h_l h_t
    rfl
/-- A field holds nothing. -/
def zeroF (k : Lt) (m : api_Msg) : Bool := match k with
  | .m => decide (m.Msize_ = 0)
  | .v => decide (m.Version_ = [])
  | .s => decide (m.Session_ = [])
  | .a => decide (m.AuthFid_ = 0)
  | .u => decide (m.User_ = [])
  | .x => decide (m.Attach_ = [])
  | .q => decide (m.Qid_ = (api_Qid.mk 0 0 0))
  | .f => decide (m.Fid_ = 0)
  | .e => decide (m.Err_ = 0)
  | .o => decide (m.OldTag_ = 0)
  | .n => decide (m.NewFid_ = 0)
  | .w => decide (m.Names_ = [])
  | .W => decide (m.Qids_ = [])
  | .M => decide (m.Mode_ = 0)
  | .i => decide (m.Iounit_ = 0)
  | .N => decide (m.Name_ = [])
  | .p => decide (m.Perm_ = 0)
  | .O => decide (m.Offset_ = 0)
  | .c => decide (m.Count_ = 0)
  | .d => decide (m.Data_ = [])
  | .S => decide (m.Stat_ = (api_Dir.mk 0 0 (api_Qid.mk 0 0 0) 0 0 0 0 [] [] [] []))
  | .l => decide (m.Lease_ = 0)
  | .t => decide (m.Term_ = 0)
theorem zeroF_eq (k : Lt) (m : api_Msg) : zeroF k m = true ↔ eqF k (zeroM m.Kind_ m.Tag_) m := by
  cases k <;> (unfold zeroF eqF; rw [decide_eq_true_eq]; exact eq_comm)
theorem cps_kind (m' : api_Msg) : ∀ (l : List Lt) (m : api_Msg), (cps l m' m).Kind_ = m.Kind_ ∧ (cps l m' m).Tag_ = m.Tag_
  | [], _ => ⟨rfl, rfl⟩
  | k :: l, m => by
    obtain ⟨h1, h2⟩ := cps_kind m' l (cpF k m' m)
    exact ⟨h1.trans (cp_kind k m' m).1, h2.trans (cp_kind k m' m).2⟩
theorem only_iff (l : List Lt) (m : api_Msg) : cps l m (zeroM m.Kind_ m.Tag_) = m ↔ ∀ k, k ∈ l ∨ zeroF k m = true := by
  rw [msg_ext]
  have hk := cps_kind m l (zeroM m.Kind_ m.Tag_)
  constructor
  · rintro ⟨_, _, h⟩ k
    rw [zeroF_eq]
    exact (eqF_cps k m l _).1 (h k)
  · intro h
    refine ⟨hk.1, hk.2, fun k => (eqF_cps k m l _).2 ?_⟩
    have := h k
    rwa [zeroF_eq] at this
/-- The reference's letters. -/
def Lt.ref : Lt → Nat
  | .m => 122
  | .v => 118
  | .s => 83
  | .a => 97
  | .u => 117
  | .x => 116
  | .q => 113
  | .f => 102
  | .e => 69
  | .o => 111
  | .n => 110
  | .w => 78
  | .W => 81
  | .M => 109
  | .i => 105
  | .N => 101
  | .p => 112
  | .O => 79
  | .c => 99
  | .d => 100
  | .S => 115
  | .l => 108
  | .t => 84
def Lt.r8 (k : Lt) : UInt8 := UInt8.ofNat k.ref
theorem Lt.r8_nat (k : Lt) : k.r8.toNat = k.ref := by cases k <;> rfl
def refB (l : List Lt) : Str := l.map Lt.r8
theorem refB_byte (l : List Lt) (i : Nat) (h : i < l.length) : byteI (refB l) (i : Int) = some (l[i].ref : Int) := by
  rw [byteI_lt (by simp only [refB, List.length_map]; exact h)]
  simp [refB, Lt.r8_nat]
theorem ref_inj {j k : Lt} (h : j.ref = k.ref) : j = k := by
  cases j <;> cases k <;> first | rfl | exact absurd h (by decide)
def allL : List Lt := [.f, .n, .a, .o, .m, .v, .u, .x, .w, .W, .q, .i, .M, .p, .N, .O, .c, .d, .S, .e, .l, .t, .s]
theorem mem_all (k : Lt) : k ∈ allL := by cases k <;> decide
theorem refzero_eq (k : Lt) (m : api_Msg) : ref08_Zero m (k.ref : Int) = some (zeroF k m) := by
  unfold ref08_Zero ref08_zeroLate
  cases k with
  | m => rfl
  | v =>
    show some (m.Version_ == []) = some (decide (m.Version_ = []))
    rw [Bool.beq_eq_decide_eq]
  | s =>
    show some (m.Session_ == []) = some (decide (m.Session_ = []))
    rw [Bool.beq_eq_decide_eq]
  | a => rfl
  | u =>
    show some (m.User_ == []) = some (decide (m.User_ = []))
    rw [Bool.beq_eq_decide_eq]
  | x =>
    show some (m.Attach_ == []) = some (decide (m.Attach_ = []))
    rw [Bool.beq_eq_decide_eq]
  | q => rfl
  | f => rfl
  | e => rfl
  | o => rfl
  | n => rfl
  | w =>
    show some ((m.Names_.length : Int) == 0) = some (decide (m.Names_ = []))
    cases m.Names_ with
    | nil => rfl
    | cons _ l => simp; omega
  | W =>
    show some ((m.Qids_.length : Int) == 0) = some (decide (m.Qids_ = []))
    cases m.Qids_ with
    | nil => rfl
    | cons _ l => simp; omega
  | M => rfl
  | i => rfl
  | N =>
    show some (m.Name_ == []) = some (decide (m.Name_ = []))
    rw [Bool.beq_eq_decide_eq]
  | p => rfl
  | O => rfl
  | c => rfl
  | d =>
    show some (m.Data_ == []) = some (decide (m.Data_ = []))
    rw [Bool.beq_eq_decide_eq]
  | S => rfl
  | l => rfl
  | t => rfl
theorem uses_eq (kd : Int) (l : List Lt) (k : Lt) (hf : ref08_Fields kd = some (refB l)) (hl : l.length ≤ 100) : ref08_Uses kd (k.ref : Int) = some (decide (k ∈ l)) := by
  have hB : BIG = 18446744073709551616 := rfl
  have hlen : (refB l).length = l.length := by simp [refB]
  unfold ref08_Uses
  refine bind_eq hf (bind_eq (loop_all3 l (fun j => if j = k then some true else none) (by omega) (fun i hi => ?_) ?_) ?_)
  · unfold ref08_Uses_L1
    refine cond_t (by rw [hlen]; simp; omega) (bind_eq (refB_byte l i hi) ?_)
    rw [w64_eq (n := (i : Int) + 1) ⟨by omega, by omega⟩]
    by_cases h : l[i] = k
    · simp only [h, if_true]; exact cond_t (by simp) rfl
    · simp only [h, if_false]
      refine cond_f ?_ rfl
      have : l[i].ref ≠ k.ref := fun h' => h (ref_inj h')
      simp; omega
  · unfold ref08_Uses_L1
    exact cond_f (by rw [hlen]; simp) rfl
  · by_cases h : k ∈ l
    · have : l.findSome? (fun j => if j = k then some true else none) = some true := by
        cases e : l.findSome? (fun j => if j = k then some true else none) with
        | none => have := find_none e k h; simp at this
        | some b =>
          obtain ⟨y, _, hy⟩ := List.exists_of_findSome?_eq_some e
          split at hy
          · exact hy.symm
          · cases hy
      rw [this]; simp [h]
    · have : l.findSome? (fun j => if j = k then some true else none) = none := by
        cases e : l.findSome? (fun j => if j = k then some true else none) with
        | none => rfl
        | some b =>
          obtain ⟨y, hy', hy⟩ := List.exists_of_findSome?_eq_some e
          split at hy
          · rename_i hk; subst hk; exact absurd hy' h
          · cases hy
      rw [this]; simp [h]
theorem refnum_eq (x b : Int) : ref08_number x b = some (inR x 0 b) := by
  unfold ref08_number inR
  by_cases h : 0 ≤ x ∧ x ≤ b
  · rw [if_pos h]; exact cond_f (by simp; omega) rfl
  · rw [if_neg h]; exact cond_t (by simp; omega) rfl
theorem reflen_eq (s : Str) (n : Int) : ref08_length s n = some (shortR s n) := by
  unfold ref08_length shortR
  by_cases h : (s.length : Int) ≤ n
  · rw [if_pos h]; exact cond_f (by simp; omega) rfl
  · rw [if_neg h]; exact cond_t (by simp; omega) rfl
theorem refnames_eq (l : List Str) (hl : ∀ s ∈ l, s.length ≤ 9223372036854775807) : ref08_names l = some (namesR l) := by
  unfold ref08_names namesR
  have hB : BIG = 18446744073709551616 := rfl
  by_cases h : l.length > 16
  · rw [if_pos h]; exact cond_t (by simp; omega) rfl
  · rw [if_neg h]
    refine cond_f (by simp; omega) (bind_eq (loop_all3 l name1 (by omega) (fun i hi => ?_) ?_) ?_)
    · unfold ref08_names_L1
      refine cond_t (by simp; omega) (bind_eq (getI_lt hi) ?_)
      rw [getI_lt hi, w64_eq (n := (i : Int) + 1) ⟨by omega, by omega⟩, Option.bind_some, ref_valid_eq _ (hl _ (List.getElem_mem hi))]
      generalize l[i] = s
      unfold name1
      by_cases h1 : s = [46, 46]
      · subst h1; rfl
      · have h2 : (!(s == [46, 46])) = true := by simpa using h1
        rw [h2]
        cases okName s <;> simp [h1]
    · unfold ref08_names_L1
      exact cond_f (by simp) rfl
    · cases l.findSome? name1 <;> rfl
end Go.Proofs.YtboplmpnjepdnaaGreat

/-
  Plain laws: the reference's check of qids. No program in sight.
-/
namespace Go.Proofs.YtboplmpnjepdnaaGreat
open Go.Rt Go.RowKit

def badT (T : Int) : Bool := (((decide (T < 0)) || (decide (T > 255))) || ((T.tmod 8) != 0)) || (((IntKind.i64.wrap (T.tdiv 16)).tmod 2) != 0)
theorem bad_all : (List.range 256).all (fun n => badT (n : Int) == (decide ((n : Int) < 0) || (andNotI .i64 (n : Int) 232 != 0))) = true := by kernel_rfl
theorem bad_eq (T : Int) (h : T ≤ 9223372036854775807) : badT T = (decide (T < 0) || (andNotI .i64 T 232 != 0)) := by
  by_cases h0 : T < 0
  · unfold badT
    have : decide (T < 0) = true := by simpa using h0
    rw [this]; simp
  · by_cases h1 : T ≤ 255
    · have := List.all_eq_true.1 bad_all T.toNat (by simp; omega)
      rw [show ((T.toNat : Nat) : Int) = T by omega] at this
      simpa using this
    · have e1 : badT T = true := by
        unfold badT
        have : decide (T > 255) = true := by simp; omega
        rw [this]; simp
      have e2 : (andNotI .i64 T 232 != 0) = true := by
        cases e : (andNotI .i64 T 232 != 0) with
        | true => rfl
        | false =>
          have hz : andNotI .i64 T 232 = 0 := by simpa using e
          have hb : okBits T ((232 : Nat) : Int) = true := by
            have hw := within_eq T 232 (by omega) h
            unfold stat_within at hw
            rw [← Option.some.inj hw]
            simp only [Bool.or_eq_true, Bool.and_eq_true, beq_iff_eq, decide_eq_true_eq]
            exact .inr ⟨by omega, hz⟩
          have := bits_in T 232 (by omega) h hb
          unfold okIn at this
          simp only [Bool.or_eq_true, Bool.and_eq_true, beq_iff_eq, decide_eq_true_eq] at this
          omega
      rw [e1, e2]; simp
theorem two_first (a b c d : Int) : firstR [inR a 0 b, inR c 0 d] = if (decide (a < 0) || decide (a > b) || decide (c < 0) || decide (c > d)) then 5 else 0 := by
  unfold firstR first1 inR
  by_cases h1 : 0 ≤ a ∧ a ≤ b <;> by_cases h2 : 0 ≤ c ∧ c ≤ d
  · have : (decide (a < 0) || decide (a > b) || decide (c < 0) || decide (c > d)) = false := by simp; omega
    simp [h1, h2, this]
  · have : (decide (a < 0) || decide (a > b) || decide (c < 0) || decide (c > d)) = true := by simp; omega
    simp [h1, h2, this]
  · have : (decide (a < 0) || decide (a > b) || decide (c < 0) || decide (c > d)) = true := by simp; omega
    simp [h1, this]
  · have : (decide (a < 0) || decide (a > b) || decide (c < 0) || decide (c > d)) = true := by simp; omega
    simp [h1, this]
theorem refqid_eq (q : api_Qid) (h : q.Type_ ≤ 9223372036854775807) : ref08_qid q = some (qidR q) := by
  unfold ref08_qid qidR
  rw [← bad_eq q.Type_ h, two_first]
  show (bif ((((badT q.Type_ || decide (q.Vers_ < 0)) || decide (q.Vers_ > 2147483647)) || decide (q.Path_ < 0)) || decide (q.Path_ > 1099511627776)) then some 5 else some 0) = _
  cases badT q.Type_ <;> cases decide (q.Vers_ < 0) <;> cases decide (q.Vers_ > 2147483647) <;> cases decide (q.Path_ < 0) <;> cases decide (q.Path_ > 1099511627776) <;> rfl
theorem refqids_eq (l : List api_Qid) (hq : ∀ q ∈ l, q.Type_ ≤ 9223372036854775807) : ref08_qids l = some (qidsR l) := by
  unfold ref08_qids qidsR
  have hB : BIG = 18446744073709551616 := rfl
  by_cases h : l.length > 16
  · rw [if_pos h]; exact cond_t (by simp; omega) rfl
  · rw [if_neg h]
    refine cond_f (by simp; omega) (bind_eq (loop_all3 l qid1 (by omega) (fun i hi => ?_) ?_) ?_)
    · unfold ref08_qids_L1
      refine cond_t (by simp; omega) (bind_eq (getI_lt hi) (bind_eq (refqid_eq _ (hq _ (List.getElem_mem hi))) ?_))
      rw [w64_eq (n := (i : Int) + 1) ⟨by omega, by omega⟩]
      unfold qid1 first1
      by_cases hy : qidR l[i] = 0
      · rw [if_pos hy]; exact cond_f (by simp [hy]) rfl
      · rw [if_neg hy]; exact cond_t (by simp [hy]) rfl
    · unfold ref08_qids_L1
      exact cond_f (by simp) rfl
    · cases l.findSome? qid1 <;> rfl
end Go.Proofs.YtboplmpnjepdnaaGreat

/-
  Plain laws: the faults of the reference's check. No program in sight.
-/
namespace Go.Proofs.YtboplmpnjepdnaaGreat
open Go.Rt Go.RowKit

/-- What is wrong with a field. -/
def faultR (k : Lt) (m : api_Msg) : Int := match k with
  | .f => inR m.Fid_ 0 4294967294 | .n => inR m.NewFid_ 0 4294967294 | .a => if m.Kind_ = 102 then inR m.AuthFid_ 0 4294967294 else inR m.AuthFid_ 0 4294967295
  | .o => inR m.OldTag_ 0 65534 | .m => inR m.Msize_ 0 4294967295 | .v => shortR m.Version_ 64 | .u => shortR m.User_ 32 | .x => shortR m.Attach_ 1024
  | .w => namesR m.Names_ | .W => qidsR m.Qids_ | .q => qidR m.Qid_ | .i => inR m.Iounit_ 0 8192 | .M => inR m.Mode_ 0 255 | .p => inR m.Perm_ 0 4294967295
  | .N => if okName m.Name_ then 0 else 6 | .O => inR m.Offset_ 0 9007199254740991 | .c => inR m.Count_ 0 8192 | .d => shortR m.Data_ 8168 | .S => checkR m.Stat_
  | .e => inR m.Err_ 1 59 | .l => inR m.Lease_ 0 2 | .t => inR m.Term_ 0 1048576 | .s => shortR m.Session_ 64
theorem reffault_eq (k : Lt) (m : api_Msg) (h : m.ok) : ref08_fault m (k.ref : Int) = some (faultR k m) := by
  obtain ⟨_, h2, _, h4, h5⟩ := h.small
  unfold ref08_fault ref08_faultLate
  cases k with
  | f => exact bind_eq (refnum_eq _ _) rfl
  | n => exact bind_eq (refnum_eq _ _) rfl
  | o => exact bind_eq (refnum_eq _ _) rfl
  | m => exact bind_eq (refnum_eq _ _) rfl
  | i => exact bind_eq (refnum_eq _ _) rfl
  | M => exact bind_eq (bind_eq (refnum_eq _ _) rfl) rfl
  | p => exact bind_eq (bind_eq (refnum_eq _ _) rfl) rfl
  | O => exact bind_eq (bind_eq (refnum_eq _ _) rfl) rfl
  | c => exact bind_eq (bind_eq (refnum_eq _ _) rfl) rfl
  | l => exact bind_eq (bind_eq (refnum_eq _ _) rfl) rfl
  | t => exact bind_eq (bind_eq (refnum_eq _ _) rfl) rfl
  | v => exact bind_eq (reflen_eq _ _) rfl
  | u => exact bind_eq (reflen_eq _ _) rfl
  | x => exact bind_eq (reflen_eq _ _) rfl
  | d => exact bind_eq (bind_eq (reflen_eq _ _) rfl) rfl
  | s => exact bind_eq (bind_eq (reflen_eq _ _) rfl) rfl
  | w => exact bind_eq (refnames_eq _ h2) rfl
  | W => exact bind_eq (refqids_eq _ fun q hq => (h.qids q hq).1.2) rfl
  | q => exact bind_eq (refqid_eq _ h.qid.1.2) rfl
  | S => exact bind_eq (bind_eq (refcheck_eq _ h5.2.2.2.2.2.2.2.1) rfl) rfl
  | a =>
    show (bif (m.Kind_ == 102) then Option.bind (ref08_number m.AuthFid_ 4294967294) _ else Option.bind (ref08_number m.AuthFid_ 4294967295) _) = some (if m.Kind_ = 102 then inR m.AuthFid_ 0 4294967294 else inR m.AuthFid_ 0 4294967295)
    by_cases hk : m.Kind_ = 102
    · rw [if_pos hk]; exact cond_t (by simpa using hk) (bind_eq (refnum_eq _ _) rfl)
    · rw [if_neg hk]; exact cond_f (by simpa using hk) (bind_eq (refnum_eq _ _) rfl)
  | N =>
    refine bind_eq (a := if okName m.Name_ then 0 else 6) (bind_eq (ref_valid_eq _ h4) ?_) rfl
    cases okName m.Name_ <;> rfl
  | e =>
    refine bind_eq (a := inR m.Err_ 1 59) ?_ rfl
    show (bif (decide (m.Err_ < 1) || decide (m.Err_ > 59)) then some 5 else some 0) = some (inR m.Err_ 1 59)
    unfold inR
    by_cases hc : 1 ≤ m.Err_ ∧ m.Err_ ≤ 59
    · rw [if_pos hc]; exact cond_f (by simp; omega) rfl
    · rw [if_neg hc]; exact cond_t (by simp; omega) rfl
theorem refloop2 (m : api_Msg) (h : m.ok) (l : List Lt) (hl : l.length ≤ 100) : loopF (ref08_Check_L2 (refB l) m) BIG 0 = some (match l.findSome? (fun k => first1 (faultR k m)) with | none => .fall () | some r => .ret r) := by
  have hB : BIG = 18446744073709551616 := rfl
  have hlen : (refB l).length = l.length := by simp [refB]
  refine (loop_all3 (body := ref08_Check_L2 (refB l) m) l (fun k => first1 (faultR k m)) (by omega) (fun i hi => ?_) ?_).trans ?_
  · unfold ref08_Check_L2
    refine cond_t (by rw [hlen]; simp; omega) (bind_eq (refB_byte l i hi) (bind_eq (reffault_eq _ m h) ?_))
    rw [w64_eq (n := (i : Int) + 1) ⟨by omega, by omega⟩]
    unfold first1
    by_cases hy : faultR l[i] m = 0
    · rw [if_pos hy]; exact cond_f (by simp [hy]) rfl
    · rw [if_neg hy]; exact cond_t (by simp [hy]) rfl
  · unfold ref08_Check_L2
    exact cond_f (by rw [hlen]; simp) rfl
  · cases l.findSome? (fun k => first1 (faultR k m)) <;> rfl
end Go.Proofs.YtboplmpnjepdnaaGreat

/-
  Plain laws: the reference's check is the check. No program in sight.
-/
namespace Go.Proofs.YtboplmpnjepdnaaGreat
open Go.Rt Go.RowKit

def firstF (l : List Lt) (m : api_Msg) : Int := match l.findSome? (fun k => first1 (faultR k m)) with | none => 0 | some r => r
theorem fault_zero (k : Lt) (m : api_Msg) (he : k ≠ .e) (hN : k ≠ .N) (h : zeroF k m = true) : faultR k m = 0 := by
  cases k with
  | a =>
    have h' : m.AuthFid_ = 0 := of_decide_eq_true h
    show (if m.Kind_ = 102 then inR m.AuthFid_ 0 4294967294 else inR m.AuthFid_ 0 4294967295) = 0
    rw [h']
    by_cases hk : m.Kind_ = 102 <;> simp [hk, inR]
  | e => exact absurd rfl he
  | N => exact absurd rfl hN
  | _ => unfold zeroF at h; have h := of_decide_eq_true h; unfold faultR; simp only; rw [h]; first | rfl | kernel_rfl
theorem firstF_one (k : Lt) (m : api_Msg) : firstF [k] m = faultR k m := by
  unfold firstF
  simp only [List.findSome?_cons, List.findSome?_nil]
  unfold first1
  by_cases h : faultR k m = 0 <;> simp [h]
theorem firstF_drop {l j : List Lt} {m : api_Msg} : (∀ k ∈ l, k ∉ j → faultR k m = 0) → l.filter (fun k => decide (k ∈ j)) = j → firstF l m = firstF j m := by
  intro h hj
  unfold firstF
  have : l.findSome? (fun k => first1 (faultR k m)) = (l.filter (fun k => decide (k ∈ j))).findSome? (fun k => first1 (faultR k m)) := by
    clear hj
    induction l with
    | nil => rfl
    | cons k l ih =>
      have ih := ih fun k' hk' => h k' (List.mem_cons_of_mem _ hk')
      by_cases hk : k ∈ j
      · rw [List.filter_cons_of_pos (by simpa using hk), List.findSome?_cons, List.findSome?_cons, ih]
      · rw [List.filter_cons_of_neg (by simpa using hk), List.findSome?_cons, h k List.mem_cons_self hk]
        exact ih
  rw [this, hj]
theorem ff_100 (m : api_Msg) (hk : m.Kind_ = 100) (h : m.ok) (hz : ∀ k, k ∈ ([.m, .v] : List Lt) ∨ zeroF k m = true) : msg_fields m = some (firstF [.m, .v] m) := by
  rw [fields_100 m hk h, ← firstF_drop (l := [.m, .v, .s]) (j := [.m, .v]) (m := m) ?_ (by decide)]
  · rfl
  · intro k hk' hn
    rcases hz k with h1 | h1
    · exact absurd h1 hn
    · exact fault_zero k m (by rintro rfl; revert hk' hn; decide) (by rintro rfl; revert hk' hn; decide) h1
theorem ff_101 (m : api_Msg) (hk : m.Kind_ = 101) (h : m.ok) (hz : ∀ k, k ∈ ([.m, .v, .s] : List Lt) ∨ zeroF k m = true) : msg_fields m = some (firstF [.m, .v, .s] m) := by
  rw [fields_101 m hk h, ← firstF_drop (l := [.m, .v, .s]) (j := [.m, .v, .s]) (m := m) ?_ (by decide)]
  · rfl
  · intro k hk' hn
    rcases hz k with h1 | h1
    · exact absurd h1 hn
    · exact fault_zero k m (by rintro rfl; revert hk' hn; decide) (by rintro rfl; revert hk' hn; decide) h1
theorem ff_102 (m : api_Msg) (hk : m.Kind_ = 102) (h : m.ok) (hz : ∀ k, k ∈ ([.a, .u, .x] : List Lt) ∨ zeroF k m = true) : msg_fields m = some (firstF [.a, .u, .x] m) := by
  rw [fields_102 m hk h, ← firstF_drop (l := [.a, .u, .x]) (j := [.a, .u, .x]) (m := m) ?_ (by decide)]
  · unfold firstF firstR
    simp only [List.findSome?_cons, List.findSome?_nil, faultR, hk]
    rfl
  · intro k hk' hn
    rcases hz k with h1 | h1
    · exact absurd h1 hn
    · exact fault_zero k m (by rintro rfl; revert hk' hn; decide) (by rintro rfl; revert hk' hn; decide) h1
theorem ff_103 (m : api_Msg) (hk : m.Kind_ = 103) (h : m.ok) (hz : ∀ k, k ∈ ([.q] : List Lt) ∨ zeroF k m = true) : msg_fields m = some (firstF [.q] m) := by
  rw [fields_103 m hk h, ← firstF_drop (l := [.q, .i]) (j := [.q]) (m := m) ?_ (by decide)]
  · rfl
  · intro k hk' hn
    rcases hz k with h1 | h1
    · exact absurd h1 hn
    · exact fault_zero k m (by rintro rfl; revert hk' hn; decide) (by rintro rfl; revert hk' hn; decide) h1
theorem ff_104 (m : api_Msg) (hk : m.Kind_ = 104) (h : m.ok) (hz : ∀ k, k ∈ ([.f, .a, .u, .x] : List Lt) ∨ zeroF k m = true) : msg_fields m = some (firstF [.f, .a, .u, .x] m) := by
  rw [fields_104 m hk h, ← firstF_drop (l := [.f, .a, .u, .x]) (j := [.f, .a, .u, .x]) (m := m) ?_ (by decide)]
  · unfold firstF firstR
    simp only [List.findSome?_cons, List.findSome?_nil, faultR, hk]
    rfl
  · intro k hk' hn
    rcases hz k with h1 | h1
    · exact absurd h1 hn
    · exact fault_zero k m (by rintro rfl; revert hk' hn; decide) (by rintro rfl; revert hk' hn; decide) h1
theorem ff_105 (m : api_Msg) (hk : m.Kind_ = 105) (h : m.ok) (hz : ∀ k, k ∈ ([.q] : List Lt) ∨ zeroF k m = true) : msg_fields m = some (firstF [.q] m) := by
  rw [fields_105 m hk h, ← firstF_drop (l := [.q, .i]) (j := [.q]) (m := m) ?_ (by decide)]
  · rfl
  · intro k hk' hn
    rcases hz k with h1 | h1
    · exact absurd h1 hn
    · exact fault_zero k m (by rintro rfl; revert hk' hn; decide) (by rintro rfl; revert hk' hn; decide) h1
theorem ff_107 (m : api_Msg) (hk : m.Kind_ = 107) (h : m.ok) (hz : ∀ k, k ∈ ([.e] : List Lt) ∨ zeroF k m = true) : msg_fields m = some (firstF [.e] m) := by
  rw [fields_107 m hk h, ← firstF_drop (l := [.e]) (j := [.e]) (m := m) ?_ (by decide)]
  · exact congrArg some (firstF_one .e m).symm
  · intro k hk' hn
    rcases hz k with h1 | h1
    · exact absurd h1 hn
    · exact fault_zero k m (by rintro rfl; revert hk' hn; decide) (by rintro rfl; revert hk' hn; decide) h1
theorem ff_108 (m : api_Msg) (hk : m.Kind_ = 108) (h : m.ok) (hz : ∀ k, k ∈ ([.o] : List Lt) ∨ zeroF k m = true) : msg_fields m = some (firstF [.o] m) := by
  rw [fields_108 m hk h, ← firstF_drop (l := [.o]) (j := [.o]) (m := m) ?_ (by decide)]
  · exact congrArg some (firstF_one .o m).symm
  · intro k hk' hn
    rcases hz k with h1 | h1
    · exact absurd h1 hn
    · exact fault_zero k m (by rintro rfl; revert hk' hn; decide) (by rintro rfl; revert hk' hn; decide) h1
theorem ff_109 (m : api_Msg) (hk : m.Kind_ = 109) (h : m.ok) (hz : ∀ k, k ∈ ([] : List Lt) ∨ zeroF k m = true) : msg_fields m = some (firstF [] m) := by
  rw [fields_109 m hk h, ← firstF_drop (l := [.f]) (j := []) (m := m) ?_ (by decide)]
  · exact congrArg some (firstF_one .f m).symm
  · intro k hk' hn
    rcases hz k with h1 | h1
    · exact absurd h1 hn
    · exact fault_zero k m (by rintro rfl; revert hk' hn; decide) (by rintro rfl; revert hk' hn; decide) h1
theorem ff_110 (m : api_Msg) (hk : m.Kind_ = 110) (h : m.ok) (hz : ∀ k, k ∈ ([.f, .n, .w] : List Lt) ∨ zeroF k m = true) : msg_fields m = some (firstF [.f, .n, .w] m) := by
  rw [fields_110 m hk h, ← firstF_drop (l := [.f, .n, .w]) (j := [.f, .n, .w]) (m := m) ?_ (by decide)]
  · rfl
  · intro k hk' hn
    rcases hz k with h1 | h1
    · exact absurd h1 hn
    · exact fault_zero k m (by rintro rfl; revert hk' hn; decide) (by rintro rfl; revert hk' hn; decide) h1
theorem ff_111 (m : api_Msg) (hk : m.Kind_ = 111) (h : m.ok) (hz : ∀ k, k ∈ ([.W] : List Lt) ∨ zeroF k m = true) : msg_fields m = some (firstF [.W] m) := by
  rw [fields_111 m hk h, ← firstF_drop (l := [.W]) (j := [.W]) (m := m) ?_ (by decide)]
  · exact congrArg some (firstF_one .W m).symm
  · intro k hk' hn
    rcases hz k with h1 | h1
    · exact absurd h1 hn
    · exact fault_zero k m (by rintro rfl; revert hk' hn; decide) (by rintro rfl; revert hk' hn; decide) h1
theorem ff_112 (m : api_Msg) (hk : m.Kind_ = 112) (h : m.ok) (hz : ∀ k, k ∈ ([.f, .M] : List Lt) ∨ zeroF k m = true) : msg_fields m = some (firstF [.f, .M] m) := by
  rw [fields_112 m hk h, ← firstF_drop (l := [.f, .M]) (j := [.f, .M]) (m := m) ?_ (by decide)]
  · rfl
  · intro k hk' hn
    rcases hz k with h1 | h1
    · exact absurd h1 hn
    · exact fault_zero k m (by rintro rfl; revert hk' hn; decide) (by rintro rfl; revert hk' hn; decide) h1
theorem ff_113 (m : api_Msg) (hk : m.Kind_ = 113) (h : m.ok) (hz : ∀ k, k ∈ ([.q, .i] : List Lt) ∨ zeroF k m = true) : msg_fields m = some (firstF [.q, .i] m) := by
  rw [fields_113 m hk h, ← firstF_drop (l := [.q, .i]) (j := [.q, .i]) (m := m) ?_ (by decide)]
  · rfl
  · intro k hk' hn
    rcases hz k with h1 | h1
    · exact absurd h1 hn
    · exact fault_zero k m (by rintro rfl; revert hk' hn; decide) (by rintro rfl; revert hk' hn; decide) h1
theorem ff_114 (m : api_Msg) (hk : m.Kind_ = 114) (h : m.ok) (hz : ∀ k, k ∈ ([.f, .N, .p, .M] : List Lt) ∨ zeroF k m = true) : msg_fields m = some (firstF [.f, .N, .p, .M] m) := by
  rw [fields_114 m hk h, ← firstF_drop (l := [.f, .N, .p, .M]) (j := [.f, .N, .p, .M]) (m := m) ?_ (by decide)]
  · rfl
  · intro k hk' hn
    rcases hz k with h1 | h1
    · exact absurd h1 hn
    · exact fault_zero k m (by rintro rfl; revert hk' hn; decide) (by rintro rfl; revert hk' hn; decide) h1
theorem ff_115 (m : api_Msg) (hk : m.Kind_ = 115) (h : m.ok) (hz : ∀ k, k ∈ ([.q, .i] : List Lt) ∨ zeroF k m = true) : msg_fields m = some (firstF [.q, .i] m) := by
  rw [fields_115 m hk h, ← firstF_drop (l := [.q, .i]) (j := [.q, .i]) (m := m) ?_ (by decide)]
  · rfl
  · intro k hk' hn
    rcases hz k with h1 | h1
    · exact absurd h1 hn
    · exact fault_zero k m (by rintro rfl; revert hk' hn; decide) (by rintro rfl; revert hk' hn; decide) h1
theorem ff_116 (m : api_Msg) (hk : m.Kind_ = 116) (h : m.ok) (hz : ∀ k, k ∈ ([.f, .O, .c] : List Lt) ∨ zeroF k m = true) : msg_fields m = some (firstF [.f, .O, .c] m) := by
  rw [fields_116 m hk h, ← firstF_drop (l := [.f, .O, .c, .d]) (j := [.f, .O, .c]) (m := m) ?_ (by decide)]
  · rfl
  · intro k hk' hn
    rcases hz k with h1 | h1
    · exact absurd h1 hn
    · exact fault_zero k m (by rintro rfl; revert hk' hn; decide) (by rintro rfl; revert hk' hn; decide) h1
theorem ff_117 (m : api_Msg) (hk : m.Kind_ = 117) (h : m.ok) (hz : ∀ k, k ∈ ([.d] : List Lt) ∨ zeroF k m = true) : msg_fields m = some (firstF [.d] m) := by
  rw [fields_117 m hk h, ← firstF_drop (l := [.f, .O, .c, .d]) (j := [.d]) (m := m) ?_ (by decide)]
  · rfl
  · intro k hk' hn
    rcases hz k with h1 | h1
    · exact absurd h1 hn
    · exact fault_zero k m (by rintro rfl; revert hk' hn; decide) (by rintro rfl; revert hk' hn; decide) h1
theorem ff_118 (m : api_Msg) (hk : m.Kind_ = 118) (h : m.ok) (hz : ∀ k, k ∈ ([.f, .O, .d] : List Lt) ∨ zeroF k m = true) : msg_fields m = some (firstF [.f, .O, .d] m) := by
  rw [fields_118 m hk h, ← firstF_drop (l := [.f, .O, .c, .d]) (j := [.f, .O, .d]) (m := m) ?_ (by decide)]
  · rfl
  · intro k hk' hn
    rcases hz k with h1 | h1
    · exact absurd h1 hn
    · exact fault_zero k m (by rintro rfl; revert hk' hn; decide) (by rintro rfl; revert hk' hn; decide) h1
theorem ff_119 (m : api_Msg) (hk : m.Kind_ = 119) (h : m.ok) (hz : ∀ k, k ∈ ([.c] : List Lt) ∨ zeroF k m = true) : msg_fields m = some (firstF [.c] m) := by
  rw [fields_119 m hk h, ← firstF_drop (l := [.f, .O, .c, .d]) (j := [.c]) (m := m) ?_ (by decide)]
  · rfl
  · intro k hk' hn
    rcases hz k with h1 | h1
    · exact absurd h1 hn
    · exact fault_zero k m (by rintro rfl; revert hk' hn; decide) (by rintro rfl; revert hk' hn; decide) h1
theorem ff_120 (m : api_Msg) (hk : m.Kind_ = 120) (h : m.ok) (hz : ∀ k, k ∈ ([.f] : List Lt) ∨ zeroF k m = true) : msg_fields m = some (firstF [.f] m) := by
  rw [fields_120 m hk h, ← firstF_drop (l := [.f]) (j := [.f]) (m := m) ?_ (by decide)]
  · exact congrArg some (firstF_one .f m).symm
  · intro k hk' hn
    rcases hz k with h1 | h1
    · exact absurd h1 hn
    · exact fault_zero k m (by rintro rfl; revert hk' hn; decide) (by rintro rfl; revert hk' hn; decide) h1
theorem ff_121 (m : api_Msg) (hk : m.Kind_ = 121) (h : m.ok) (hz : ∀ k, k ∈ ([] : List Lt) ∨ zeroF k m = true) : msg_fields m = some (firstF [] m) := by
  rw [fields_121 m hk h, ← firstF_drop (l := [.f]) (j := []) (m := m) ?_ (by decide)]
  · exact congrArg some (firstF_one .f m).symm
  · intro k hk' hn
    rcases hz k with h1 | h1
    · exact absurd h1 hn
    · exact fault_zero k m (by rintro rfl; revert hk' hn; decide) (by rintro rfl; revert hk' hn; decide) h1
theorem ff_122 (m : api_Msg) (hk : m.Kind_ = 122) (h : m.ok) (hz : ∀ k, k ∈ ([.f] : List Lt) ∨ zeroF k m = true) : msg_fields m = some (firstF [.f] m) := by
  rw [fields_122 m hk h, ← firstF_drop (l := [.f]) (j := [.f]) (m := m) ?_ (by decide)]
  · exact congrArg some (firstF_one .f m).symm
  · intro k hk' hn
    rcases hz k with h1 | h1
    · exact absurd h1 hn
    · exact fault_zero k m (by rintro rfl; revert hk' hn; decide) (by rintro rfl; revert hk' hn; decide) h1
theorem ff_123 (m : api_Msg) (hk : m.Kind_ = 123) (h : m.ok) (hz : ∀ k, k ∈ ([] : List Lt) ∨ zeroF k m = true) : msg_fields m = some (firstF [] m) := by
  rw [fields_123 m hk h, ← firstF_drop (l := [.f]) (j := []) (m := m) ?_ (by decide)]
  · exact congrArg some (firstF_one .f m).symm
  · intro k hk' hn
    rcases hz k with h1 | h1
    · exact absurd h1 hn
    · exact fault_zero k m (by rintro rfl; revert hk' hn; decide) (by rintro rfl; revert hk' hn; decide) h1
theorem ff_124 (m : api_Msg) (hk : m.Kind_ = 124) (h : m.ok) (hz : ∀ k, k ∈ ([.f] : List Lt) ∨ zeroF k m = true) : msg_fields m = some (firstF [.f] m) := by
  rw [fields_124 m hk h, ← firstF_drop (l := [.f]) (j := [.f]) (m := m) ?_ (by decide)]
  · exact congrArg some (firstF_one .f m).symm
  · intro k hk' hn
    rcases hz k with h1 | h1
    · exact absurd h1 hn
    · exact fault_zero k m (by rintro rfl; revert hk' hn; decide) (by rintro rfl; revert hk' hn; decide) h1
theorem ff_125 (m : api_Msg) (hk : m.Kind_ = 125) (h : m.ok) (hz : ∀ k, k ∈ ([.S] : List Lt) ∨ zeroF k m = true) : msg_fields m = some (firstF [.S] m) := by
  rw [fields_125 m hk h, ← firstF_drop (l := [.f, .S]) (j := [.S]) (m := m) ?_ (by decide)]
  · rfl
  · intro k hk' hn
    rcases hz k with h1 | h1
    · exact absurd h1 hn
    · exact fault_zero k m (by rintro rfl; revert hk' hn; decide) (by rintro rfl; revert hk' hn; decide) h1
theorem ff_126 (m : api_Msg) (hk : m.Kind_ = 126) (h : m.ok) (hz : ∀ k, k ∈ ([.f, .S] : List Lt) ∨ zeroF k m = true) : msg_fields m = some (firstF [.f, .S] m) := by
  rw [fields_126 m hk h, ← firstF_drop (l := [.f, .S]) (j := [.f, .S]) (m := m) ?_ (by decide)]
  · rfl
  · intro k hk' hn
    rcases hz k with h1 | h1
    · exact absurd h1 hn
    · exact fault_zero k m (by rintro rfl; revert hk' hn; decide) (by rintro rfl; revert hk' hn; decide) h1
theorem ff_127 (m : api_Msg) (hk : m.Kind_ = 127) (h : m.ok) (hz : ∀ k, k ∈ ([] : List Lt) ∨ zeroF k m = true) : msg_fields m = some (firstF [] m) := by
  rw [fields_127 m hk h, ← firstF_drop (l := [.f]) (j := []) (m := m) ?_ (by decide)]
  · exact congrArg some (firstF_one .f m).symm
  · intro k hk' hn
    rcases hz k with h1 | h1
    · exact absurd h1 hn
    · exact fault_zero k m (by rintro rfl; revert hk' hn; decide) (by rintro rfl; revert hk' hn; decide) h1
theorem ff_128 (m : api_Msg) (hk : m.Kind_ = 128) (h : m.ok) (hz : ∀ k, k ∈ ([.f, .l, .t] : List Lt) ∨ zeroF k m = true) : msg_fields m = some (firstF [.f, .l, .t] m) := by
  rw [fields_128 m hk h, ← firstF_drop (l := [.f, .q, .l, .t]) (j := [.f, .l, .t]) (m := m) ?_ (by decide)]
  · rfl
  · intro k hk' hn
    rcases hz k with h1 | h1
    · exact absurd h1 hn
    · exact fault_zero k m (by rintro rfl; revert hk' hn; decide) (by rintro rfl; revert hk' hn; decide) h1
theorem ff_129 (m : api_Msg) (hk : m.Kind_ = 129) (h : m.ok) (hz : ∀ k, k ∈ ([.q, .l, .t] : List Lt) ∨ zeroF k m = true) : msg_fields m = some (firstF [.q, .l, .t] m) := by
  rw [fields_129 m hk h, ← firstF_drop (l := [.f, .q, .l, .t]) (j := [.q, .l, .t]) (m := m) ?_ (by decide)]
  · rfl
  · intro k hk' hn
    rcases hz k with h1 | h1
    · exact absurd h1 hn
    · exact fault_zero k m (by rintro rfl; revert hk' hn; decide) (by rintro rfl; revert hk' hn; decide) h1
theorem ff_130 (m : api_Msg) (hk : m.Kind_ = 130) (h : m.ok) (hz : ∀ k, k ∈ ([.s] : List Lt) ∨ zeroF k m = true) : msg_fields m = some (firstF [.s] m) := by
  rw [fields_130 m hk h, ← firstF_drop (l := [.s]) (j := [.s]) (m := m) ?_ (by decide)]
  · exact congrArg some (firstF_one .s m).symm
  · intro k hk' hn
    rcases hz k with h1 | h1
    · exact absurd h1 hn
    · exact fault_zero k m (by rintro rfl; revert hk' hn; decide) (by rintro rfl; revert hk' hn; decide) h1
theorem ff_131 (m : api_Msg) (hk : m.Kind_ = 131) (h : m.ok) (hz : ∀ k, k ∈ ([] : List Lt) ∨ zeroF k m = true) : msg_fields m = some (firstF [] m) := by
  rw [fields_131 m hk h, ← firstF_drop (l := [.f]) (j := []) (m := m) ?_ (by decide)]
  · exact congrArg some (firstF_one .f m).symm
  · intro k hk' hn
    rcases hz k with h1 | h1
    · exact absurd h1 hn
    · exact fault_zero k m (by rintro rfl; revert hk' hn; decide) (by rintro rfl; revert hk' hn; decide) h1
end Go.Proofs.YtboplmpnjepdnaaGreat

/-
  Plain laws: the reference's names and tags. No program in sight.
-/
namespace Go.Proofs.YtboplmpnjepdnaaGreat
open Go.Rt Go.RowKit

theorem refname_in (k : Int) (hk : k = 100 ∨ k = 101 ∨ k = 102 ∨ k = 103 ∨ k = 104 ∨ k = 105 ∨ k = 107 ∨ k = 108 ∨ k = 109 ∨ k = 110 ∨ k = 111 ∨ k = 112 ∨ k = 113 ∨ k = 114 ∨ k = 115 ∨ k = 116 ∨ k = 117 ∨ k = 118 ∨ k = 119 ∨ k = 120 ∨ k = 121 ∨ k = 122 ∨ k = 123 ∨ k = 124 ∨ k = 125 ∨ k = 126 ∨ k = 127 ∨ k = 128 ∨ k = 129 ∨ k = 130 ∨ k = 131) : ref08_Name k = msg_Name k := by
  rcases hk with rfl | rfl | rfl | rfl | rfl | rfl | rfl | rfl | rfl | rfl | rfl | rfl | rfl | rfl | rfl | rfl | rfl | rfl | rfl | rfl | rfl | rfl | rfl | rfl | rfl | rfl | rfl | rfl | rfl | rfl | rfl <;> rfl
theorem refname_out (k : Int) (hk : ¬ (k = 100 ∨ k = 101 ∨ k = 102 ∨ k = 103 ∨ k = 104 ∨ k = 105 ∨ k = 107 ∨ k = 108 ∨ k = 109 ∨ k = 110 ∨ k = 111 ∨ k = 112 ∨ k = 113 ∨ k = 114 ∨ k = 115 ∨ k = 116 ∨ k = 117 ∨ k = 118 ∨ k = 119 ∨ k = 120 ∨ k = 121 ∨ k = 122 ∨ k = 123 ∨ k = 124 ∨ k = 125 ∨ k = 126 ∨ k = 127 ∨ k = 128 ∨ k = 129 ∨ k = 130 ∨ k = 131)) : ref08_Name k = some [] := by
  simp only [not_or] at hk
  unfold ref08_Name ref08_late
  refine cond_f (by simp; omega) ?_
  refine cond_f (by simp; omega) ?_
  refine cond_f (by simp; omega) ?_
  refine cond_f (by simp; omega) ?_
  refine cond_f (by simp; omega) ?_
  refine cond_f (by simp; omega) ?_
  refine cond_f (by simp; omega) ?_
  refine cond_f (by simp; omega) ?_
  refine cond_f (by simp; omega) ?_
  refine cond_f (by simp; omega) ?_
  refine cond_f (by simp; omega) ?_
  refine cond_f (by simp; omega) ?_
  refine cond_f (by simp; omega) ?_
  refine cond_f (by simp; omega) ?_
  refine cond_f (by simp; omega) ?_
  refine cond_f (by simp; omega) ?_
  refine cond_f (by simp; omega) ?_
  refine bind_eq (a := []) ?_ rfl
  refine cond_f (by simp; omega) ?_
  refine cond_f (by simp; omega) ?_
  refine cond_f (by simp; omega) ?_
  refine cond_f (by simp; omega) ?_
  refine cond_f (by simp; omega) ?_
  refine cond_f (by simp; omega) ?_
  refine cond_f (by simp; omega) ?_
  refine cond_f (by simp; omega) ?_
  refine cond_f (by simp; omega) ?_
  refine cond_f (by simp; omega) ?_
  refine cond_f (by simp; omega) ?_
  refine cond_f (by simp; omega) ?_
  refine cond_f (by simp; omega) ?_
  refine cond_f (by simp; omega) ?_
  rfl
end Go.Proofs.YtboplmpnjepdnaaGreat

/-
  Plain laws: the reference's check is the check. No program in sight.
-/
namespace Go.Proofs.YtboplmpnjepdnaaGreat
open Go.Rt Go.RowKit

theorem reftag_eq (m : api_Msg) : ∃ b, msg_tagged m = some b ∧ ref08_tag m = some (if b then 0 else 5) := by
  unfold msg_tagged ref08_tag
  by_cases h1 : m.Kind_ = 100
  · refine ⟨m.Tag_ == 65535, bind_eq (a := true) (cond_t (by simp [h1]) (by simp [h1])) (cond_t rfl rfl), ?_⟩
    by_cases h2 : m.Tag_ = 65535
    · refine cond_f (by simp [h1, h2]) (cond_f (by simp [h1]) (by simp [h2]))
    · refine cond_t (by simp [h1, h2]) (by simp [h2])
  · by_cases h3 : m.Kind_ = 101
    · refine ⟨m.Tag_ == 65535, bind_eq (a := true) (cond_f (by simp [h1]) (by simp [h3])) (cond_t rfl rfl), ?_⟩
      by_cases h2 : m.Tag_ = 65535
      · refine cond_f (by simp [h3, h2]) (cond_f (by simp [h3]) (by simp [h2]))
      · refine cond_t (by simp [h3, h2]) (by simp [h2])
    · have e0 : (bif (m.Kind_ == 100) then some (m.Kind_ == 100) else some (m.Kind_ == 101)) = some false := cond_f (by simp [h1]) (by simp [h3])
      by_cases h4 : m.Kind_ = 107
      · by_cases h2 : 0 ≤ m.Tag_ ∧ m.Tag_ ≤ 65535
        · refine ⟨true, bind_eq e0 (cond_f rfl (cond_t (by simp [h4]) ?_)), cond_f ?_ (cond_f ?_ rfl)⟩
          · rw [show decide (m.Tag_ ≥ 0) = true by simp; omega, show decide (m.Tag_ ≤ 65535) = true by simp; omega]; rfl
          · simp [h1, h3]; omega
          · simp [h4]
        · refine ⟨false, bind_eq e0 (cond_f rfl (cond_t (by simp [h4]) ?_)), cond_t ?_ rfl⟩
          · by_cases h5 : 0 ≤ m.Tag_
            · rw [show decide (m.Tag_ ≤ 65535) = false by simp; omega]; simp
            · rw [show decide (m.Tag_ ≥ 0) = false by simp; omega]; simp
          · simp [h1, h3]; omega
      · by_cases h2 : 0 ≤ m.Tag_ ∧ m.Tag_ ≤ 65534
        · refine ⟨true, bind_eq e0 (cond_f rfl (cond_f (by simp [h4]) ?_)), cond_f ?_ (cond_f ?_ rfl)⟩
          · rw [show decide (m.Tag_ ≥ 0) = true by simp; omega, show decide (m.Tag_ ≤ 65534) = true by simp; omega]; rfl
          · simp [h1, h3]; omega
          · simp [h1, h3, h4]; omega
        · refine ⟨false, bind_eq e0 (cond_f rfl (cond_f (by simp [h4]) ?_)), ?_⟩
          · by_cases h5 : 0 ≤ m.Tag_
            · rw [show decide (m.Tag_ ≤ 65534) = false by simp; omega]; simp
            · rw [show decide (m.Tag_ ≥ 0) = false by simp; omega]; simp
          · by_cases h6 : 0 ≤ m.Tag_ ∧ m.Tag_ ≤ 65535
            · exact cond_f (by simp [h1, h3]; omega) (cond_t (by simp [h1, h3, h4]; omega) rfl)
            · exact cond_t (by simp [h1, h3]; omega) rfl
theorem refloop1 (m : api_Msg) (l : List Lt) (hl : l.length ≤ 100) (hf : ref08_Fields m.Kind_ = some (refB l)) : loopF (ref08_Check_L1 m) BIG 0 = some (match allL.findSome? (fun k => if k ∈ l ∨ zeroF k m = true then none else some (2 : Int)) with | none => .fall () | some r => .ret r) := by
  refine (loop_all3 (body := ref08_Check_L1 m) allL (fun k => if k ∈ l ∨ zeroF k m = true then none else some (2 : Int)) (by decide) (fun i hi => ?_) ?_).trans ?_
  · have hi' : i < 23 := hi
    unfold ref08_Check_L1
    obtain ⟨u, hu, hv⟩ : ∃ u, ref08_Uses m.Kind_ (allL[i].ref : Int) = some u ∧ (u = true ↔ allL[i] ∈ l) := ⟨_, uses_eq m.Kind_ l _ hf hl, decide_eq_true_iff⟩
    refine cond_t (by simp; omega) (bind_eq (refB_byte allL i hi) (bind_eq hu ?_))
    rw [w64_eq (n := (i : Int) + 1) ⟨by omega, by omega⟩]
    cases u with
    | true =>
      have h := hv.1 rfl
      rw [if_pos (.inl h)]
      exact bind_eq rfl (cond_f rfl rfl)
    | false =>
      have h : ¬ allL[i] ∈ l := fun hc => by have := hv.2 hc; cases this
      have e := refB_byte allL i hi
      cases hz : zeroF allL[i] m with
      | true =>
        rw [if_pos (.inr rfl)]
        exact bind_eq (a := false) (cond_t rfl (bind_eq e (bind_eq (refzero_eq _ m) (congrArg (fun b => some !b) hz)))) (cond_f rfl rfl)
      | false =>
        rw [if_neg (fun hc => hc.elim h (fun hz' => absurd hz' Bool.false_ne_true))]
        exact bind_eq (a := true) (cond_t rfl (bind_eq e (bind_eq (refzero_eq _ m) (congrArg (fun b => some !b) hz)))) (cond_t rfl rfl)
  · unfold ref08_Check_L1
    exact cond_f rfl rfl
  · cases allL.findSome? (fun k => if k ∈ l ∨ zeroF k m = true then none else some (2 : Int)) <;> rfl
abbrev isKind (k : Int) : Prop := k = 100 ∨ k = 101 ∨ k = 102 ∨ k = 103 ∨ k = 104 ∨ k = 105 ∨ k = 107 ∨ k = 108 ∨ k = 109 ∨ k = 110 ∨ k = 111 ∨ k = 112 ∨ k = 113 ∨ k = 114 ∨ k = 115 ∨ k = 116 ∨ k = 117 ∨ k = 118 ∨ k = 119 ∨ k = 120 ∨ k = 121 ∨ k = 122 ∨ k = 123 ∨ k = 124 ∨ k = 125 ∨ k = 126 ∨ k = 127 ∨ k = 128 ∨ k = 129 ∨ k = 130 ∨ k = 131
theorem name_out (k : Int) (hk : ¬ isKind k) : msg_Name k = some [] := by
  obtain ⟨t, ht⟩ := Option.get_some (name_some k)
  by_cases h : t = []
  · rw [ht, h]
  · exact absurd (named_kind ht h) hk
theorem kinds_ref (m : api_Msg) (hk : isKind m.Kind_) (h : m.ok) : ∃ (l : List Lt) (t : Str), msg_Name m.Kind_ = some t ∧ (t == []) = false ∧ l.length ≤ 100 ∧ wire_layout m.Kind_ = some (layB l) ∧ ref08_Fields m.Kind_ = some (refB l) ∧ ref09_Fields m.Kind_ = some (l.map Lt.num, true) ∧
    msg_only m = some (cps l m (zeroM m.Kind_ m.Tag_)) ∧ ((∀ k, k ∈ l ∨ zeroF k m = true) → msg_fields m = some (firstF l m)) := by
  obtain ⟨t, ht, hne⟩ : ∃ t, msg_Name m.Kind_ = some t ∧ (t == []) = false := by
    rcases hk with hk | hk | hk | hk | hk | hk | hk | hk | hk | hk | hk | hk | hk | hk | hk | hk | hk | hk | hk | hk | hk | hk | hk | hk | hk | hk | hk | hk | hk | hk | hk <;> (rw [hk]; exact ⟨_, rfl, rfl⟩)
  obtain ⟨l', h1, _, _, h3⟩ := lay_only m ht (by simpa using hne)
  have key : ∀ l : List Lt, l.length ≤ 100 → wire_layout m.Kind_ = some (layB l) → ref08_Fields m.Kind_ = some (refB l) → ref09_Fields m.Kind_ = some (l.map Lt.num, true) → ((∀ k, k ∈ l ∨ zeroF k m = true) → msg_fields m = some (firstF l m)) →
      ∃ (l : List Lt) (t : Str), msg_Name m.Kind_ = some t ∧ (t == []) = false ∧ l.length ≤ 100 ∧ wire_layout m.Kind_ = some (layB l) ∧ ref08_Fields m.Kind_ = some (refB l) ∧ ref09_Fields m.Kind_ = some (l.map Lt.num, true) ∧
    msg_only m = some (cps l m (zeroM m.Kind_ m.Tag_)) ∧ ((∀ k, k ∈ l ∨ zeroF k m = true) → msg_fields m = some (firstF l m)) := fun l a b c d e => by
    rw [b] at h1
    rw [← layB_inj (Option.some.inj h1)] at h3
    exact ⟨l, t, ht, hne, a, b, c, d, h3, e⟩
  rcases hk with hk | hk | hk | hk | hk | hk | hk | hk | hk | hk | hk | hk | hk | hk | hk | hk | hk | hk | hk | hk | hk | hk | hk | hk | hk | hk | hk | hk | hk | hk | hk
  · exact key [.m, .v] (by decide) (by rw [hk]; rfl) (by rw [hk]; rfl) (by rw [hk]; rfl) (ff_100 m hk h)
  · exact key [.m, .v, .s] (by decide) (by rw [hk]; rfl) (by rw [hk]; rfl) (by rw [hk]; rfl) (ff_101 m hk h)
  · exact key [.a, .u, .x] (by decide) (by rw [hk]; rfl) (by rw [hk]; rfl) (by rw [hk]; rfl) (ff_102 m hk h)
  · exact key [.q] (by decide) (by rw [hk]; rfl) (by rw [hk]; rfl) (by rw [hk]; rfl) (ff_103 m hk h)
  · exact key [.f, .a, .u, .x] (by decide) (by rw [hk]; rfl) (by rw [hk]; rfl) (by rw [hk]; rfl) (ff_104 m hk h)
  · exact key [.q] (by decide) (by rw [hk]; rfl) (by rw [hk]; rfl) (by rw [hk]; rfl) (ff_105 m hk h)
  · exact key [.e] (by decide) (by rw [hk]; rfl) (by rw [hk]; rfl) (by rw [hk]; rfl) (ff_107 m hk h)
  · exact key [.o] (by decide) (by rw [hk]; rfl) (by rw [hk]; rfl) (by rw [hk]; rfl) (ff_108 m hk h)
  · exact key [] (by decide) (by rw [hk]; rfl) (by rw [hk]; rfl) (by rw [hk]; rfl) (ff_109 m hk h)
  · exact key [.f, .n, .w] (by decide) (by rw [hk]; rfl) (by rw [hk]; rfl) (by rw [hk]; rfl) (ff_110 m hk h)
  · exact key [.W] (by decide) (by rw [hk]; rfl) (by rw [hk]; rfl) (by rw [hk]; rfl) (ff_111 m hk h)
  · exact key [.f, .M] (by decide) (by rw [hk]; rfl) (by rw [hk]; rfl) (by rw [hk]; rfl) (ff_112 m hk h)
  · exact key [.q, .i] (by decide) (by rw [hk]; rfl) (by rw [hk]; rfl) (by rw [hk]; rfl) (ff_113 m hk h)
  · exact key [.f, .N, .p, .M] (by decide) (by rw [hk]; rfl) (by rw [hk]; rfl) (by rw [hk]; rfl) (ff_114 m hk h)
  · exact key [.q, .i] (by decide) (by rw [hk]; rfl) (by rw [hk]; rfl) (by rw [hk]; rfl) (ff_115 m hk h)
  · exact key [.f, .O, .c] (by decide) (by rw [hk]; rfl) (by rw [hk]; rfl) (by rw [hk]; rfl) (ff_116 m hk h)
  · exact key [.d] (by decide) (by rw [hk]; rfl) (by rw [hk]; rfl) (by rw [hk]; rfl) (ff_117 m hk h)
  · exact key [.f, .O, .d] (by decide) (by rw [hk]; rfl) (by rw [hk]; rfl) (by rw [hk]; rfl) (ff_118 m hk h)
  · exact key [.c] (by decide) (by rw [hk]; rfl) (by rw [hk]; rfl) (by rw [hk]; rfl) (ff_119 m hk h)
  · exact key [.f] (by decide) (by rw [hk]; rfl) (by rw [hk]; rfl) (by rw [hk]; rfl) (ff_120 m hk h)
  · exact key [] (by decide) (by rw [hk]; rfl) (by rw [hk]; rfl) (by rw [hk]; rfl) (ff_121 m hk h)
  · exact key [.f] (by decide) (by rw [hk]; rfl) (by rw [hk]; rfl) (by rw [hk]; rfl) (ff_122 m hk h)
  · exact key [] (by decide) (by rw [hk]; rfl) (by rw [hk]; rfl) (by rw [hk]; rfl) (ff_123 m hk h)
  · exact key [.f] (by decide) (by rw [hk]; rfl) (by rw [hk]; rfl) (by rw [hk]; rfl) (ff_124 m hk h)
  · exact key [.S] (by decide) (by rw [hk]; rfl) (by rw [hk]; rfl) (by rw [hk]; rfl) (ff_125 m hk h)
  · exact key [.f, .S] (by decide) (by rw [hk]; rfl) (by rw [hk]; rfl) (by rw [hk]; rfl) (ff_126 m hk h)
  · exact key [] (by decide) (by rw [hk]; rfl) (by rw [hk]; rfl) (by rw [hk]; rfl) (ff_127 m hk h)
  · exact key [.f, .l, .t] (by decide) (by rw [hk]; rfl) (by rw [hk]; rfl) (by rw [hk]; rfl) (ff_128 m hk h)
  · exact key [.q, .l, .t] (by decide) (by rw [hk]; rfl) (by rw [hk]; rfl) (by rw [hk]; rfl) (ff_129 m hk h)
  · exact key [.s] (by decide) (by rw [hk]; rfl) (by rw [hk]; rfl) (by rw [hk]; rfl) (ff_130 m hk h)
  · exact key [] (by decide) (by rw [hk]; rfl) (by rw [hk]; rfl) (by rw [hk]; rfl) (ff_131 m hk h)
def chk (nm : Str) (b : Bool) (l : List Lt) (m : api_Msg) : Int := bif nm == [] then 2 else bif !b then 5 else bif (allL.all fun k => decide (k ∈ l) || zeroF k m) then firstF l m else 2
theorem all_find (l : List Lt) (m : api_Msg) : allL.findSome? (fun k => if k ∈ l ∨ zeroF k m = true then none else some (2 : Int)) = bif (allL.all fun k => decide (k ∈ l) || zeroF k m) then none else some 2 := by
  generalize allL = xs
  induction xs with
  | nil => rfl
  | cons k xs ih =>
    rw [List.findSome?_cons, List.all_cons, ih]
    by_cases h : k ∈ l ∨ zeroF k m = true
    · have : (decide (k ∈ l) || zeroF k m) = true := by simpa using h
      rw [if_pos h, this]; rfl
    · have : (decide (k ∈ l) || zeroF k m) = false := by simpa using h
      rw [if_neg h, this]; rfl
theorem refcheck_in (m : api_Msg) (h : m.ok) (l : List Lt) (nm : Str) (b : Bool) (e1 : ref08_Name m.Kind_ = some nm) (e2 : ref08_tag m = some (if b then 0 else 5)) (hl : l.length ≤ 100) (hf : ref08_Fields m.Kind_ = some (refB l)) : ref08_Check m = some (chk nm b l m) := by
  unfold ref08_Check chk
  refine bind_eq e1 ?_
  cases nm == [] with
  | true => rfl
  | false =>
    refine cond_f rfl (bind_eq e2 ?_)
    cases b with
    | false => rfl
    | true =>
      refine cond_f rfl (bind_eq (refloop1 m l hl hf) ?_)
      rw [all_find]
      cases (allL.all fun k => decide (k ∈ l) || zeroF k m) with
      | false => rfl
      | true =>
        refine bind_eq hf (bind_eq (refloop2 m h l hl) ?_)
        unfold firstF
        cases l.findSome? (fun k => first1 (faultR k m)) <;> rfl
theorem check_in (m : api_Msg) (h : m.ok) (l : List Lt) (nm : Str) (b : Bool) (e1 : msg_Name m.Kind_ = some nm) (e2 : msg_tagged m = some b) (e3 : msg_only m = some (cps l m (zeroM m.Kind_ m.Tag_))) (e4 : (∀ k, k ∈ l ∨ zeroF k m = true) → msg_fields m = some (firstF l m)) : msg_Check m = some (chk nm b l m) := by
  have hx := cps_small l h.small.1 h.small.2.2.1 (m := zeroM m.Kind_ m.Tag_) (by simp [zeroM]) (by simp [zeroM])
  unfold msg_Check chk
  refine bind_eq e1 ?_
  cases nm == [] with
  | true => rfl
  | false =>
    refine cond_f rfl (bind_eq e2 ?_)
    cases b with
    | false => rfl
    | true =>
      refine cond_f rfl (bind_eq e3 (bind_eq (same_eq _ m hx.1 hx.2) ?_))
      cases ha : (allL.all fun k => decide (k ∈ l) || zeroF k m) with
      | false =>
        have : ¬ cps l m (zeroM m.Kind_ m.Tag_) = m := by
          rw [only_iff]
          intro hc
          have : (allL.all fun k => decide (k ∈ l) || zeroF k m) = true := by
            rw [List.all_eq_true]
            intro k _
            simpa using hc k
          rw [this] at ha; cases ha
        exact cond_t (by simpa using this) rfl
      | true =>
        have hc : ∀ k, k ∈ l ∨ zeroF k m = true := fun k => by
          have := List.all_eq_true.1 ha k (mem_all k)
          simpa using this
        refine cond_f (by simpa using (only_iff l m).2 hc) (bind_eq (e4 hc) rfl)
theorem refcheck09 (m : api_Msg) (h : m.ok) : ref08_Check m = msg_Check m := by
  obtain ⟨b, e1, e2⟩ := reftag_eq m
  by_cases hk : isKind m.Kind_
  · obtain ⟨l, nm, e3, _, hl, _, hf, _, e4, e5⟩ := kinds_ref m hk h
    rw [refcheck_in m h l nm b ((refname_in _ hk).trans e3) e2 hl hf, check_in m h l nm b e3 e1 e4 e5]
  · unfold ref08_Check msg_Check
    rw [refname_out _ hk, name_out _ hk]
    rfl
end Go.Proofs.YtboplmpnjepdnaaGreat
