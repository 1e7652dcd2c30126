/-
 What the statements of this seat hang on, part 7: Hh Hu Hv Hz Hza Hzb Hzc Hzd Hx Hze Hzf Hzg Hzh Hzi Hzj Hzk Hzl Hzm.
-/
import Derived.Test.YtfdmakpcmkbhhaaGreatDoorYE6
import Derived.Sort.Walk0
namespace Go.Proofs.YtfdmakpcmkbhhaaGreatDoor
open Go.Rt Go.RowKit
theorem blk_found {u : api_Store} {k : Int} {p : Str} (h : findB u (scoreS k p) = some (mk k p)) : blk u (scoreS k p) k = (p, 0) := by
 have : getB u (scoreS k p) k = (p, 0) := by
  unfold getB
  rw [h]
  simp [mk]
 unfold blk
 rw [this]
 rfl
theorem blk_some {u : api_Store} {sc : Str} {k : Int} (h : (blk u sc k).2 = 0) : ∃ b, findB u sc = some b := by
 cases hf : findB u sc with
 | some b => exact ⟨b, rfl⟩
 | none =>
  have hg : getB u sc k = ([], 35) := by unfold getB; rw [hf]
  unfold blk at h
  rw [hg] at h
  cases h
theorem StLe.blk {s t : api_Store} (h : StLe s t) {sc : Str} {k : Int} (hb : (blk s sc k).2 = 0) : blk t sc k = blk s sc k := by
 obtain ⟨b, hf⟩ := blk_some hb
 have hf' := h.find hf
 have : getB t sc k = getB s sc k := by
  unfold getB
  rw [hf, hf']
 unfold Go.Proofs.YtfdmakpcmkbhhaaGreatDoor.blk
 rw [this]
def chunkN (u : Nat) (d : Str) (i : Nat) : Str := (d.drop (i * u)).take u
def Sto (u : api_Store) (k : Int) : Nat → Str → Str → Prop
 | 0, sc, d => d.length ≤ 1024 ∧ blk u sc k = (d, 0)
 | l + 1, sc, d => ∃ scs : List Str, all32 scs ∧ scs.length = (d.length + unitN l - 1) / unitN l ∧ blk u sc 2 = (scs.flatten, 0) ∧ ∀ (i : Nat) (h : i < scs.length), Sto u k l scs[i] (chunkN (unitN l) d i)
theorem Sto.le {s t : api_Store} {k : Int} (hle : StLe s t) : ∀ {l : Nat} {sc d : Str}, Sto s k l sc d → Sto t k l sc d
 | 0, sc, d, h => ⟨h.1, by rw [hle.blk (by rw [h.2])]; exact h.2⟩
 | l + 1, sc, d, ⟨scs, h1, h2, h3, h4⟩ => ⟨scs, h1, h2, by rw [hle.blk (by rw [h3])]; exact h3, fun i hi => Sto.le hle (h4 i hi)⟩
theorem take_step (d : Str) {a b p u : Nat} (hb : b ≤ d.length) : (d.take (min b p)).drop a ++ ((((d.drop p).take u).take (min (b - p) (min u (d.length - p)))).drop (min (a - p) (min u (d.length - p)))) = (d.take (min b (p + u))).drop a := by
 rcases Nat.le_total b p with h | h
 ·rw [Nat.min_eq_left h, Nat.min_eq_left (show b ≤ p + u by omega), show b - p = 0 by omega]
  simp
 ·rw [Nat.min_eq_right h]
  have hX : (d.take p).length = p := by rw [List.length_take]; omega
  have e1 : d.take (min b (p + u)) = d.take p ++ ((d.drop p).take u).take (min (b - p) (min u (d.length - p))) := by
   rw [List.take_take, show min (min (b - p) (min u (d.length - p))) u = min b (p + u) - p by omega]
   conv => lhs; rw [show min b (p + u) = p + (min b (p + u) - p) by omega]
   exact List.take_add
  rw [e1, List.drop_append, hX]
  congr 1
  generalize hY : ((d.drop p).take u).take (min (b - p) (min u (d.length - p))) = Y
  have hl : Y.length ≤ min u (d.length - p) := by rw [← hY]; simp; omega
  rcases Nat.le_total (a - p) (min u (d.length - p)) with h2 | h2
  ·rw [Nat.min_eq_left h2]
  ·rw [Nat.min_eq_right h2, List.drop_of_length_le hl, List.drop_of_length_le (by omega)]
theorem flat_get32 {scs : List Str} (h : all32 scs) {i : Nat} (hi : i < scs.length) : (scs.flatten.drop (32 * i)).take 32 = scs[i] := by
 rw [flat32_drop i h, List.drop_eq_getElem_cons hi, List.flatten_cons]
 have := h scs[i] (List.getElem_mem hi)
 rw [List.take_append_of_le_length (by omega), List.take_of_length_le (by omega)]
theorem rd_sto {u : api_Store} {k : Int} : ∀ {l : Nat} {sc d : Str} {a b : Nat}, Sto u k l sc d → a ≤ b → b ≤ d.length → (rdF u k l sc d.length a b).1 = (d.take b).drop a ∧ (rdF u k l sc d.length a b).2.2 = 0
 | 0, sc, d, a, b, h, hab, hb => by
  obtain ⟨h1, h2⟩ := h
  unfold rdF
  rw [h2]
  simp
 | l + 1, sc, d, a, b, ⟨scs, h1, h2, h3, h4⟩, hab, hb => by
  unfold rdF
  rw [h3]
  have hf : scs.flatten.length = 32 * ((d.length + unitN l - 1) / unitN l) := by rw [flat32_len h1, h2]
  simp only [if_true, if_pos hf]
  have hu1 := unitN_pos l
  have hN : d.length ≤ scs.length * unitN l := by
   rw [h2]
   have h5 := Nat.div_add_mod (d.length + unitN l - 1) (unitN l)
   have h6 := Nat.mod_lt (d.length + unitN l - 1) (show unitN l > 0 by omega)
   rw [Nat.mul_comm] at h5
   omega
  rw [← h2]
  have h := runS_inv (f := fRd (rdF u k l) scs.flatten (unitN l) d.length a b) (fun i acc => acc.1 = (d.take (min b (i * unitN l))).drop a) (fun _ => False) (n := scs.length) (s0 := ([], [sc])) (by simp) fun i acc hi hI => ?_
  ·cases hr : runS (fRd (rdF u k l) scs.flatten (unitN l) d.length a b) ([], [sc]) (List.range scs.length) with
   | inl acc =>
    have := h.1 acc hr
    rw [Nat.min_eq_left (by omega)] at this
    exact ⟨this, rfl⟩
   | inr r => exact (h.2 r hr).elim
  ·have hst := take_step d (a := a) (b := b) (p := i * unitN l) (u := unitN l) hb
   have hs1 : (i + 1) * unitN l = i * unitN l + unitN l := Nat.succ_mul _ _
   have hcl : (chunkN (unitN l) d i).length = sizeN (unitN l) d.length i := by simp [chunkN, sizeN]
   unfold fRd
   rw [flat_get32 h1 hi]
   by_cases hsk : min (b - i * unitN l) (sizeN (unitN l) d.length i) ≤ min (a - i * unitN l) (sizeN (unitN l) d.length i)
   ·rw [if_pos hsk]
    refine ⟨fun s' e => ?_, fun e he => (by cases he)⟩
    obtain rfl := Sum.inl.inj e
    have hz : (((d.drop (i * unitN l)).take (unitN l)).take (min (b - i * unitN l) (min (unitN l) (d.length - i * unitN l)))).drop (min (a - i * unitN l) (min (unitN l) (d.length - i * unitN l))) = [] := by
     refine List.drop_of_length_le ?_
     rw [List.length_take]
     unfold sizeN at hsk
     omega
    rw [hs1, ← hst, hI, hz, List.append_nil]
   ·rw [if_neg hsk]
    obtain ⟨r1, r2⟩ := rd_sto (h4 i hi) (a := min (a - i * unitN l) (sizeN (unitN l) d.length i)) (b := min (b - i * unitN l) (sizeN (unitN l) d.length i)) (by omega) (by rw [hcl]; omega)
    rw [hcl] at r1 r2
    simp only [if_pos r2]
    refine ⟨fun s' e => ?_, fun e he => (by cases he)⟩
    obtain rfl := Sum.inl.inj e
    simp only
    rw [hs1, ← hst, hI, r1]
    rfl
structure Lev (u : api_Store) (k : Int) (l : Nat) (d : Str) (scs : List Str) : Prop where
 a32 : all32 scs
 len : scs.length = max 1 ((d.length + unitN l - 1) / unitN l)
 sto : ∀ (i : Nat) (h : i < scs.length), Sto u k l scs[i] (chunkN (unitN l) d i)
theorem Lev.one {u : api_Store} {k : Int} {l : Nat} {d : Str} {scs : List Str} (h : Lev u k l d scs) (h1 : scs.length = 1) : Sto u k l (scs.getLastD []) d := by
 obtain ⟨x, rfl⟩ := List.length_eq_one_iff.1 h1
 have h2 := h.sto 0 (by simp)
 have hl := h.len
 have hu1 := unitN_pos l
 have h3 : d.length ≤ unitN l := by
  rcases Nat.lt_or_ge (unitN l) d.length with h' | h'
  ·have : 2 ≤ (d.length + unitN l - 1) / unitN l := (Nat.le_div_iff_mul_le (by omega)).2 (by omega)
   simp at hl
   omega
  ·exact h'
 have e : chunkN (unitN l) d 0 = d := by
  unfold chunkN
  rw [Nat.zero_mul, List.drop_zero, List.take_of_length_le h3]
 rw [e] at h2
 exact h2
theorem lev_zero {s : api_Store} {k : Int} (hk : 1 ≤ k ∧ k ≤ 4) (hs : StOK s) {d : Str} (he : (putL k s (pieces d)).2.2 = 0) : Lev (putL k s (pieces d)).1 k 0 d (putL k s (pieces d)).2.1 := by
 obtain ⟨_, _, h3⟩ := putL_ok hk (ps := pieces d) hs
 obtain ⟨l1, l2⟩ := putL_len hk hs he
 obtain ⟨h4, h5⟩ := h3 he
 refine ⟨l2, by rw [l1, pieces_len]; rfl, fun i hi => ?_⟩
 have hi' : i < (pieces d).length := by rw [← l1]; exact hi
 have e1 : (putL k s (pieces d)).2.1[i] = scoreS k (pieces d)[i] := by simp [h4]
 obtain ⟨p1, p2⟩ := h5 (pieces d)[i] (List.getElem_mem hi')
 rw [e1]
 have e2 : chunkN (unitN 0) d i = (pieces d)[i] := by
  rw [pieces_get]
  unfold chunkN piece
  rw [show unitN 0 = 1024 from rfl, Nat.mul_comm]
 rw [e2]
 exact ⟨p1, blk_found p2⟩
theorem lev_next {s : api_Store} {k : Int} {l : Nat} {d : Str} {scs : List Str} (hs : StOK s) (h : Lev s k l d scs) (h1 : 1 < scs.length) (he : (putL 2 s (pieces scs.flatten)).2.2 = 0) : Lev (putL 2 s (pieces scs.flatten)).1 k (l + 1) d (putL 2 s (pieces scs.flatten)).2.1 := by
 obtain ⟨_, hle, h3⟩ := putL_ok (k := 2) (by omega) (ps := pieces scs.flatten) hs
 obtain ⟨l1, l2⟩ := putL_len (k := 2) (by omega) hs he
 obtain ⟨h4, h5⟩ := h3 he
 have hu1 := unitN_pos l
 have hus := unitN_succ l
 have hpl : (pieces scs.flatten).length = nP (32 * scs.length) := by rw [pieces_len, flat32_len h.a32]
 have hlen := h.len
 generalize hq : (d.length + unitN l - 1) / unitN l = q at hlen
 have hq1 : q * unitN l ≤ d.length + unitN l - 1 := by rw [← hq]; exact Nat.div_mul_le_self _ _
 have hq2 : d.length ≤ q * unitN l := by
  have h5 := Nat.div_add_mod (d.length + unitN l - 1) (unitN l)
  have h6 := Nat.mod_lt (d.length + unitN l - 1) (show unitN l > 0 by omega)
  rw [hq, Nat.mul_comm] at h5
  omega
 have hq3 : scs.length = q := by omega
 have hup : (d.length + unitN (l + 1) - 1) / unitN (l + 1) = (q + 31) / 32 := by
  rw [hus]
  refine Nat.div_eq_of_lt_le ?_ ?_
  ·have : (q + 31) / 32 * 32 ≤ q + 31 := Nat.div_mul_le_self _ _
   have h6 : (q + 31) / 32 * 32 * unitN l ≤ (q + 31) * unitN l := Nat.mul_le_mul_right _ this
   rw [Nat.mul_assoc] at h6
   have h7 : (q + 31) * unitN l = q * unitN l + 31 * unitN l := Nat.add_mul _ _ _
   omega
  ·have : q < ((q + 31) / 32 + 1) * 32 := by omega
   have h6 : (q + 1) * unitN l ≤ ((q + 31) / 32 + 1) * 32 * unitN l := Nat.mul_le_mul_right _ (by omega)
   have h8 : q ≤ (q + 31) / 32 * 32 := by omega
   have h9 : q * unitN l ≤ (q + 31) / 32 * 32 * unitN l := Nat.mul_le_mul_right _ h8
   have h10 : ((q + 31) / 32 + 1) * (32 * unitN l) = (q + 31) / 32 * 32 * unitN l + 32 * unitN l := by rw [Nat.succ_mul, Nat.mul_assoc]
   omega
 refine ⟨l2, ?_, fun i hi => ?_⟩
 ·rw [l1, hpl, hup, hq3]
  unfold nP
  omega
 ·have hi' : i < (pieces scs.flatten).length := by rw [← l1]; exact hi
  have hi2 : 32 * i < scs.length := by
   rw [hpl] at hi'
   unfold nP at hi'
   omega
  have e1 : (putL 2 s (pieces scs.flatten)).2.1[i] = scoreS 2 (pieces scs.flatten)[i] := by simp [h4]
  obtain ⟨p1, p2⟩ := h5 (pieces scs.flatten)[i] (List.getElem_mem hi')
  rw [e1]
  have e2 : (pieces scs.flatten)[i] = ((scs.drop (32 * i)).take 32).flatten := by rw [pieces_get, piece32 h.a32]
  have hcl : (chunkN (unitN (l + 1)) d i).length = min (unitN (l + 1)) (d.length - i * unitN (l + 1)) := by simp [chunkN]
  have hgl : ((scs.drop (32 * i)).take 32).length = min 32 (q - 32 * i) := by simp [hq3]
  have hiu : i * unitN (l + 1) = 32 * i * unitN l := by rw [hus, ← Nat.mul_assoc, Nat.mul_comm i 32]
  refine ⟨(scs.drop (32 * i)).take 32, fun x hx => h.a32 x (List.mem_of_mem_drop (List.mem_of_mem_take hx)), ?_, ?_, fun j hj => ?_⟩
  ·rw [hgl, hcl, hiu, hus]
   -- ceil of a piece
   symm
   have hqi : q * unitN l = (q - 32 * i) * unitN l + 32 * i * unitN l := by rw [← Nat.add_mul]; congr 1; omega
   rcases Nat.le_total 32 (q - 32 * i) with h' | h'
   ·rw [Nat.min_eq_left h']
    have h6 : 32 * unitN l ≤ (q - 32 * i) * unitN l := Nat.mul_le_mul_right _ h'
    have h7 : 31 * unitN l < d.length - 32 * i * unitN l := by
     have : (q - 32 * i) * unitN l + unitN l ≥ 32 * unitN l + unitN l := by omega
     omega
    have h33 : (32 + 1) * unitN l = 32 * unitN l + unitN l := by omega
    refine Nat.div_eq_of_lt_le ?_ ?_
    ·omega
    ·rw [h33]
     omega
   ·rw [Nat.min_eq_right h']
    have h6 : (q - 32 * i) * unitN l ≤ 32 * unitN l := Nat.mul_le_mul_right _ h'
    have h33 : (q - 32 * i + 1) * unitN l = (q - 32 * i) * unitN l + unitN l := Nat.succ_mul _ _
    refine Nat.div_eq_of_lt_le ?_ ?_
    ·omega
    ·rw [h33]
     omega
  ·rw [← e2]
   exact blk_found p2
  ·have hj2 : j < 32 := by rw [hgl] at hj; omega
   have hj3 : 32 * i + j < scs.length := by rw [hgl] at hj; omega
   have e3 : ((scs.drop (32 * i)).take 32)[j] = scs[32 * i + j] := by simp
   rw [e3]
   have e4 : chunkN (unitN l) (chunkN (unitN (l + 1)) d i) j = chunkN (unitN l) d (32 * i + j) := by
    have hju : j * unitN l + unitN l ≤ 32 * unitN l := by
     have : (j + 1) * unitN l ≤ 32 * unitN l := Nat.mul_le_mul_right _ (by omega)
     rwa [Nat.succ_mul] at this
    unfold chunkN
    rw [List.drop_take, List.take_take, List.drop_drop, hiu, Nat.add_mul, hus, Nat.min_eq_left (by omega)]
   rw [e4]
   exact (h.sto (32 * i + j) hj3).le hle
theorem up_sto {k : Int} {d : Str} : ∀ (f : Nat) {s : api_Store} {l : Nat} {scs : List Str}, StOK s → Lev s k l d scs → 1 < scs.length → (upF f 2 s (pieces scs.flatten)).err = 0 → ∃ n : Nat, (upF f 2 s (pieces scs.flatten)).levels = (n : Int) ∧ Sto (upF f 2 s (pieces scs.flatten)).store k (l + 1 + n) (upF f 2 s (pieces scs.flatten)).score d
 | 0, s, l, scs, _, _, _, h => by simp [upF] at h
 | f + 1, s, l, scs, hs, hl, h1, h => by
  unfold upF at h ⊢
  split at h
  ·rename_i he
   rw [if_pos he]
   have hn := lev_next hs hl h1 he
   obtain ⟨l1, l2⟩ := putL_len (k := 2) (by omega) hs he
   obtain ⟨ok1, _, _⟩ := putL_ok (k := 2) (by omega) (ps := pieces scs.flatten) hs
   split at h
   ·rename_i h2
    rw [if_pos h2]
    exact ⟨0, rfl, hn.one (l1.trans h2)⟩
   ·rename_i h2
    rw [if_neg h2]
    have hge : 1 ≤ (pieces scs.flatten).length := by rw [pieces_len]; exact Nat.le_max_left _ _
    obtain ⟨n, e1, e2⟩ := up_sto f ok1 hn (by omega) h
    refine ⟨n + 1, by simp only [e1]; rfl, ?_⟩
    rw [show l + 1 + (n + 1) = l + 1 + 1 + n by omega]
    exact e2
  ·rename_i he
   exact absurd h he
theorem put_sto {s : api_Store} {k : Int} {d : Str} (hk : 1 ≤ k ∧ k ≤ 4) (hs : StOK s) (hd : d.length ≤ 1048576) (he : (putS s k d).err = 0) : Sto (putS s k d).store k (hN (nP d.length)) (putS s k d).score d := by
 obtain ⟨n1, n2⟩ := nP_le hd
 have hlev := upF_levels 3 hk hs he (by rw [pieces_len]; exact n1) (by rw [pieces_len]; exact n2)
 rw [pieces_len] at hlev
 unfold putS at he ⊢
 have hz : (putL k s (pieces d)).2.2 = 0 := by
  rcases Decidable.em ((putL k s (pieces d)).2.2 = 0) with h | h
  ·exact h
  ·unfold upF at he
   rw [if_neg h] at he
   exact absurd he h
 have h0 := lev_zero hk hs hz
 obtain ⟨l1, l2⟩ := putL_len hk hs hz
 obtain ⟨ok1, _, _⟩ := putL_ok hk (ps := pieces d) hs
 by_cases h1 : (pieces d).length = 1
 ·have hu : upF 3 k s (pieces d) = ⟨(putL k s (pieces d)).1, (putL k s (pieces d)).2.1.getLastD [], 0, 0⟩ := by unfold upF; rw [if_pos hz, if_pos h1]
  rw [hu] at hlev ⊢
  have : hN (nP d.length) = 0 := by
   simp only at hlev
   omega
  rw [this]
  exact h0.one (l1.trans h1)
 ·have hu : upF 3 k s (pieces d) = ⟨(upF 2 2 (putL k s (pieces d)).1 (pieces (putL k s (pieces d)).2.1.flatten)).store, (upF 2 2 (putL k s (pieces d)).1 (pieces (putL k s (pieces d)).2.1.flatten)).score, (upF 2 2 (putL k s (pieces d)).1 (pieces (putL k s (pieces d)).2.1.flatten)).levels + 1, (upF 2 2 (putL k s (pieces d)).1 (pieces (putL k s (pieces d)).2.1.flatten)).err⟩ := by
   rw [upF, if_pos hz, if_neg h1]
  rw [hu] at hlev he ⊢
  simp only at hlev he ⊢
  have hge : 1 ≤ (pieces d).length := by rw [pieces_len]; exact n1
  obtain ⟨n, e1, e2⟩ := up_sto 2 ok1 h0 (by omega) he
  have : hN (nP d.length) = 0 + 1 + n := by
   rw [e1] at hlev
   omega
  rw [this]
  exact e2
theorem root_ok {s : api_Store} {k : Int} {d : Str} (hd : d.length ≤ 1048576) (h32 : (putS s k d).score.length = 32) : okRoot (api_Root.mk (putS s k d).score (d.length : Int) ((hN (nP d.length) : Nat) : Int)) = true := by
 unfold okRoot
 simp only [Bool.and_eq_true, decide_eq_true_eq, beq_iff_eq, Int.toNat_natCast]
 exact ⟨⟨⟨congrArg Int.ofNat h32, Int.natCast_nonneg _⟩, by show (d.length : Int) ≤ 1048576; omega⟩, trivial⟩
theorem sto_score {u : api_Store} (hu : StOK u) {k : Int} : ∀ {l : Nat} {sc d : Str}, Sto u k l sc d → sc.length = 32 := by
 intro l sc d h
 have hb : ∃ k', (blk u sc k').2 = 0 := by
  cases l with
  | zero => exact ⟨k, by rw [h.2]⟩
  | succ l =>
   obtain ⟨scs, _, _, h3, _⟩ := h
   exact ⟨2, by rw [h3]⟩
 obtain ⟨k', hb⟩ := hb
 obtain ⟨b, hf⟩ := blk_some hb
 obtain ⟨h1, h2⟩ := findB_some hf
 rw [← h2]
 exact (hu.all b h1).2.2.2
theorem fileR_sto {u : api_Store} {k : Int} {sc d : Str} (hd : d.length ≤ 1048576) (h32 : sc.length = 32) (h : Sto u k (hN (nP d.length)) sc d) :
  (fileR u k (api_Root.mk sc (d.length : Int) ((hN (nP d.length) : Nat) : Int))).1 = d ∧ (fileR u k (api_Root.mk sc (d.length : Int) ((hN (nP d.length) : Nat) : Int))).2.2 = 0 := by
 have hr : okRoot (api_Root.mk sc (d.length : Int) ((hN (nP d.length) : Nat) : Int)) = true := by
  unfold okRoot
  simp only [Bool.and_eq_true, decide_eq_true_eq, beq_iff_eq, Int.toNat_natCast]
  exact ⟨⟨⟨congrArg Int.ofNat h32, Int.natCast_nonneg _⟩, by show (d.length : Int) ≤ 1048576; omega⟩, trivial⟩
 unfold fileR
 rw [if_pos hr]
 have := rd_sto h (a := 0) (b := d.length) (Nat.zero_le _) (Nat.le_refl _)
 simp only [Int.toNat_natCast]
 simpa using this
end Go.Proofs.YtfdmakpcmkbhhaaGreatDoor
namespace Go.Proofs.YtfdmakpcmkbhhaaGreatDoor
open Go.Rt Go.RowKit
def encE (n : api_Node) (r : api_Root) : Str := leB n.Id_ 4 ++ leB n.Parent_ 4 ++ leB n.Vers_ 4 ++ leB n.Mode_ 4 ++ leB n.Atime_ 8 ++ leB n.Mtime_ 8 ++ textB n.Name_ ++ textB n.Uid_ ++ textB n.Gid_ ++ textB n.Muid_ ++ leB r.Length_ 4 ++ leB r.Levels_ 1 ++ r.Score_
structure EntOK (n : api_Node) (r : api_Root) : Prop where
 id : 0 ≤ n.Id_ ∧ n.Id_ < 4294967296
 par : 0 ≤ n.Parent_ ∧ n.Parent_ < 4294967296
 vers : 0 ≤ n.Vers_ ∧ n.Vers_ < 4294967296
 mode : 0 ≤ n.Mode_ ∧ n.Mode_ < 4294967296
 atime : 0 ≤ n.Atime_
 mtime : 0 ≤ n.Mtime_
 name : n.Name_.length ≤ 64
 uid : n.Uid_.length ≤ 64
 gid : n.Gid_.length ≤ 64
 muid : n.Muid_.length ≤ 64
 len : 0 ≤ r.Length_ ∧ r.Length_ < 4294967296
 lev : 0 ≤ r.Levels_ ∧ r.Levels_ < 256
 score : r.Score_.length = 32
theorem encE_len {n : api_Node} {r : api_Root} (h : EntOK n r) : (encE n r).length ≤ 333 ∧ 77 ≤ (encE n r).length := by
 have h1 := h.name
 have h2 := h.uid
 have h3 := h.gid
 have h4 := h.muid
 have h5 := h.score
 simp only [encE, List.length_append, leB_len, textB_len]
 omega
theorem encode1_eq {n : Int} {w : Nat} (h1 : 1 ≤ w) (h8 : w ≤ 8) (h0 : 0 ≤ n) (hn : w < 8 → n < 2 ^ (8 * w)) {s : Str} (hs : s.length ≤ 1000000) : archive_encode_1 n (w : Int) s = some (s ++ leB n w) := by
 unfold archive_encode_1
 exact bind_eq (octet_put_eq n w h1 h8 h0 hn) (bind_eq (cat_eq (by rw [leB_len]; omega)) rfl)
theorem encode_eq {n : api_Node} {r : api_Root} (h : EntOK n r) : archive_encode (archive_entry.mk n r) = some (encE n r) := by
 unfold archive_encode
 have hn := h.name
 have hu := h.uid
 have hg := h.gid
 have hm := h.muid
 have hsc := h.score
 have e4 : ∀ {x : Int}, 0 ≤ x ∧ x < 4294967296 → ∀ {s : Str}, s.length ≤ 1000000 → archive_encode_1 x 4 s = some (s ++ leB x 4) := fun hx _ hs => encode1_eq (w := 4) (by omega) (by omega) hx.1 (fun _ => by show _ < (4294967296 : Int); exact hx.2) hs
 have e8 : ∀ {x : Int}, 0 ≤ x → ∀ {s : Str}, s.length ≤ 1000000 → archive_encode_1 x 8 s = some (s ++ leB x 8) := fun hx _ hs => encode1_eq (w := 8) (by omega) (by omega) hx (fun h => by omega) hs
 have e1 : ∀ {x : Int}, 0 ≤ x ∧ x < 256 → ∀ {s : Str}, s.length ≤ 1000000 → archive_encode_1 x 1 s = some (s ++ leB x 1) := fun hx _ hs => encode1_eq (w := 1) (by omega) (by omega) hx.1 (fun _ => by show _ < (256 : Int); exact hx.2) hs
 refine bind_eq (a := leB n.Id_ 4 ++ leB n.Parent_ 4 ++ leB n.Vers_ 4 ++ leB n.Mode_ 4) ?_ ?_
 ·refine loop_traj (T := fun i => ((i : Int), (match i with | 0 => [] | 1 => leB n.Id_ 4 | 2 => leB n.Id_ 4 ++ leB n.Parent_ 4 | 3 => leB n.Id_ 4 ++ leB n.Parent_ 4 ++ leB n.Vers_ 4 | _ => leB n.Id_ 4 ++ leB n.Parent_ 4 ++ leB n.Vers_ 4 ++ leB n.Mode_ 4), [n.Id_, n.Parent_, n.Vers_, n.Mode_])) 4 (by decide) (fun i hi => ?_) ?_
  ·unfold archive_encode_L1
   have : i = 0 ∨ i = 1 ∨ i = 2 ∨ i = 3 := by omega
   rcases this with rfl | rfl | rfl | rfl
   ·exact cond_t rfl (bind_eq (a := n.Id_) rfl (bind_eq (e4 h.id (by simp)) rfl))
   ·exact cond_t rfl (bind_eq (a := n.Parent_) rfl (bind_eq (e4 h.par (by simp [leB_len])) rfl))
   ·exact cond_t rfl (bind_eq (a := n.Vers_) rfl (bind_eq (e4 h.vers (by simp [leB_len])) rfl))
   ·exact cond_t rfl (bind_eq (a := n.Mode_) rfl (bind_eq (e4 h.mode (by simp [leB_len])) rfl))
  ·unfold archive_encode_L1
   exact cond_f rfl rfl
 refine bind_eq (e8 h.atime (by simp [leB_len])) (bind_eq (e8 h.mtime (by simp [leB_len])) ?_)
 generalize hpre : leB n.Id_ 4 ++ leB n.Parent_ 4 ++ leB n.Vers_ 4 ++ leB n.Mode_ 4 ++ leB n.Atime_ 8 ++ leB n.Mtime_ 8 = pre
 have hpl : pre.length = 32 := by rw [← hpre]; simp [leB_len]
 refine bind_eq (a := pre ++ textB n.Name_ ++ textB n.Uid_ ++ textB n.Gid_ ++ textB n.Muid_) ?_ ?_
 ·refine loop_traj (T := fun i => ((i : Int), (match i with | 0 => pre | 1 => pre ++ textB n.Name_ | 2 => pre ++ textB n.Name_ ++ textB n.Uid_ | 3 => pre ++ textB n.Name_ ++ textB n.Uid_ ++ textB n.Gid_ | _ => pre ++ textB n.Name_ ++ textB n.Uid_ ++ textB n.Gid_ ++ textB n.Muid_), [n.Name_, n.Uid_, n.Gid_, n.Muid_])) 4 (by decide) (fun i hi => ?_) ?_
  ·unfold archive_encode_L2
   have : i = 0 ∨ i = 1 ∨ i = 2 ∨ i = 3 := by omega
   have t : ∀ {s : Str}, s.length ≤ 64 → octet_PutText s = some (textB s, 0) := fun hs => text_put _ (by omega)
   rcases this with rfl | rfl | rfl | rfl
   ·exact cond_t rfl (bind_eq (a := n.Name_) rfl (bind_eq (t hn) (bind_eq (cat_eq (by show pre.length + (textB n.Name_).length ≤ _; simp [textB_len]; omega)) rfl)))
   ·exact cond_t rfl (bind_eq (a := n.Uid_) rfl (bind_eq (t hu) (bind_eq (cat_eq (by show (pre ++ textB n.Name_).length + (textB n.Uid_).length ≤ _; simp [textB_len]; omega)) rfl)))
   ·exact cond_t rfl (bind_eq (a := n.Gid_) rfl (bind_eq (t hg) (bind_eq (cat_eq (by show (pre ++ textB n.Name_ ++ textB n.Uid_).length + (textB n.Gid_).length ≤ _; simp [textB_len]; omega)) rfl)))
   ·exact cond_t rfl (bind_eq (a := n.Muid_) rfl (bind_eq (t hm) (bind_eq (cat_eq (by show (pre ++ textB n.Name_ ++ textB n.Uid_ ++ textB n.Gid_).length + (textB n.Muid_).length ≤ _; simp [textB_len]; omega)) rfl)))
  ·unfold archive_encode_L2
   exact cond_f rfl rfl
 refine bind_eq (e4 h.len (by simp [textB_len]; omega)) (bind_eq (e1 h.lev (by simp [textB_len, leB_len]; omega)) (bind_eq (cat_eq (by simp [textB_len, leB_len]; omega)) ?_))
 rw [← hpre]
 rfl
end Go.Proofs.YtfdmakpcmkbhhaaGreatDoor
namespace Go.Proofs.YtfdmakpcmkbhhaaGreatDoor
open Go.Rt Go.RowKit
theorem okNode_all {n : api_Node} (h : okNode n = true) : okMode n.Mode_ = true ∧ (0 ≤ n.Vers_ ∧ n.Vers_ ≤ 2147483647) ∧ (0 ≤ n.Atime_ ∧ n.Atime_ ≤ 1099511627776) ∧ (0 ≤ n.Mtime_ ∧ n.Mtime_ ≤ 1099511627776) ∧ n.Uid_.length ≤ 64 ∧ n.Gid_.length ≤ 64 ∧ n.Muid_.length ≤ 64 ∧ n.Data_.length ≤ 65536 ∧ (hasI n.Mode_ 31 = true → n.Data_ = []) := by
 unfold okNode at h
 simp only [Bool.and_eq_true, decide_eq_true_eq, Bool.or_eq_true, Bool.not_eq_true', beq_iff_eq] at h
 obtain ⟨⟨⟨⟨⟨⟨h1, h2⟩, h3⟩, h4⟩, h5⟩, h6⟩, h7⟩ := h
 refine ⟨h1, h2, h3, h4, ?_, ?_, ?_, ?_, fun hd => ?_⟩
 all_goals first | omega | (rcases h7 with h7 | h7 <;> simp_all)
theorem OkT.name {l : List api_Node} {next : Int} (h : OkT l next) {n : api_Node} (hn : n ∈ l) : n.Name_.length ≤ 64 := by
 by_cases h1 : n.Id_ = 1
 ·obtain ⟨r, q, rfl, h2, _, h3, _⟩ := h.root
  have : n = r := id_inj h.srt hn List.mem_cons_self (by rw [h1, h2])
  rw [this, h3]
  decide
 ·have := h.nam n hn h1
  unfold okName at this
  simp only [Bool.and_eq_true, decide_eq_true_eq] at this
  exact this.1.1.1.2
theorem OkT.parent {l : List api_Node} {next : Int} (h : OkT l next) {n : api_Node} (hn : n ∈ l) : 1 ≤ n.Parent_ ∧ n.Parent_ ≤ n.Id_ := by
 by_cases h1 : n.Id_ = 1
 ·obtain ⟨r, q, rfl, h2, h4, h3, _⟩ := h.root
  have : n = r := id_inj h.srt hn List.mem_cons_self (by rw [h1, h2])
  rw [this, h2, h4]
  decide
 ·obtain ⟨p, hp, e, hlt, _⟩ := h.par n hn h1
  have := h.ge hp
  omega
theorem OkT.ent {l : List api_Node} {next : Int} (h : OkT l next) {n : api_Node} (hn : n ∈ l) {r : api_Root} (hr : (0 ≤ r.Length_ ∧ r.Length_ ≤ 1048576) ∧ (0 ≤ r.Levels_ ∧ r.Levels_ ≤ 2) ∧ r.Score_.length = 32) : EntOK n r := by
 obtain ⟨_, h2, h3, h4, h5, h6, h7, _, _⟩ := okNode_all (h.flds n hn)
 have hi := h.ge hn
 have hx := h.nxt n hn
 have h8 := h.nx2
 have hp := h.parent hn
 have hm := h.mode hn
 exact ⟨by omega, by omega, by omega, hm, h3.1, h4.1, h.name hn, h5, h6, h7, by omega, by omega, hr.2.2⟩
def finP (s : api_Store) (k : Int) (d : Str) : api_Store × api_Root × Int := if (putS s k d).err = 0 then ((putS s k d).store, api_Root.mk (putS s k d).score (d.length : Int) ((hN (nP d.length) : Nat) : Int), 0) else (s, root0, (putS s k d).err)
def fPN (l : List api_Node) (rec : api_Store → api_Node → api_Store × api_Root × Int) (a : Str × api_Store) (id : Int) : (Str × api_Store) ⊕ Int :=
 if (rec a.2 (nodeT l id).1).2.2 = 0 then .inl (a.1 ++ encE (nodeT l id).1 (rec a.2 (nodeT l id).1).2.1, (rec a.2 (nodeT l id).1).1) else .inr (rec a.2 (nodeT l id).1).2.2
def putN (l : List api_Node) : Nat → api_Store → api_Node → api_Store × api_Root × Int
 | 0, s, _ => (s, root0, 2)
 | f + 1, s, n => if hasI n.Mode_ 31 then outS (fun a => finP a.2 3 a.1) (fun e => (s, root0, e)) (runS (fPN l (putN l f)) ([], s) (childT l n.Id_)) else finP s 1 n.Data_
def RootF (r : api_Root) : Prop := (0 ≤ r.Length_ ∧ r.Length_ ≤ 1048576) ∧ (0 ≤ r.Levels_ ∧ r.Levels_ ≤ 2) ∧ r.Score_.length = 32
theorem finP_ok {s : api_Store} {k : Int} {d : Str} (hk : 1 ≤ k ∧ k ≤ 4) (hs : StOK s) (hd : d.length ≤ 1048576) : StOK (finP s k d).1 ∧ StLe s (finP s k d).1 ∧ ((finP s k d).2.2 = 0 → RootF (finP s k d).2.1) := by
 unfold finP
 split
 ·rename_i he
  obtain ⟨h1, h2⟩ := upF_ok 3 hk hs (ps := pieces d)
  have h3 := put_sto hk hs hd he
  have h4 := sto_score h1 h3
  have := hN_le (nP d.length)
  exact ⟨h1, h2, fun _ => ⟨by simp only; omega, by simp only; omega, h4⟩⟩
 ·rename_i he
  exact ⟨hs, StLe.refl s, fun e => absurd e he⟩
theorem child_of {l : List api_Node} {next : Int} (h : OkT l next) {id c : Int} (hc : c ∈ childT l id) : ∃ n ∈ l, n.Id_ = c ∧ n.Parent_ = id ∧ n.Id_ ≠ 1 ∧ nodeT l c = (n, true) ∧ id < c := by
 unfold childT at hc
 obtain ⟨n, hn, rfl⟩ := List.mem_map.1 hc
 obtain ⟨h1, h2⟩ := List.mem_filter.1 hn
 simp only [Bool.and_eq_true, beq_iff_eq, bne_iff_ne, ne_eq] at h2
 obtain ⟨p, _, e, hlt, _⟩ := h.par n h1 h2.2
 exact ⟨n, h1, rfl, h2.1, h2.2, nodeT_of h.srt h1, by omega⟩
theorem childT_len (l : List api_Node) (id : Int) : (childT l id).length ≤ l.length := by
 unfold childT
 rw [List.length_map]
 exact List.length_filter_le _ _
theorem runS_list {α σ ε : Type} {f : σ → α → σ ⊕ ε} (Inv : Nat → σ → Prop) (Q : ε → Prop) : ∀ {xs : List α} {k : Nat} {s0 : σ}, Inv k s0 → (∀ i s x, x ∈ xs → Inv i s → (∀ s', f s x = .inl s' → Inv (i + 1) s') ∧ ∀ e, f s x = .inr e → Q e) →
  (∀ s, runS f s0 xs = .inl s → Inv (k + xs.length) s) ∧ ∀ e, runS f s0 xs = .inr e → Q e
 | [], k, s0, h0, _ => ⟨fun s e => by simp only [runS, Sum.inl.injEq] at e; subst e; exact h0, fun e h => by simp [runS] at h⟩
 | x :: l, k, s0, h0, h => by
  obtain ⟨h1, h2⟩ := h k s0 x List.mem_cons_self h0
  simp only [runS]
  cases hf : f s0 x with
  | inl s' =>
   obtain ⟨i1, i2⟩ := runS_list Inv Q (xs := l) (h1 s' hf) fun i s y hy => h i s y (List.mem_cons_of_mem _ hy)
   refine ⟨fun s e => ?_, i2⟩
   have := i1 s e
   rwa [show k + 1 + l.length = k + (x :: l).length by simp; omega] at this
  | inr e =>
   refine ⟨fun s e' => (by cases e'), fun e' h' => ?_⟩
   obtain rfl := Sum.inr.inj h'
   exact h2 e hf
theorem putN_ok {l : List api_Node} {next : Int} (h : OkT l next) : ∀ (f : Nat) {s : api_Store} {n : api_Node}, n ∈ l → StOK s → StOK (putN l f s n).1 ∧ StLe s (putN l f s n).1 ∧ ((putN l f s n).2.2 = 0 → RootF (putN l f s n).2.1)
 | 0, s, n, _, hs => ⟨hs, StLe.refl s, fun e => by cases e⟩
 | f + 1, s, n, hn, hs => by
  have hok := okNode_all (h.flds n hn)
  unfold putN
  split
  ·have hr := runS_list (f := fPN l (putN l f)) (fun i a => StOK a.2 ∧ StLe s a.2 ∧ a.1.length ≤ 333 * i) (fun e => e ≠ 0) (xs := childT l n.Id_) (k := 0) (s0 := ([], s)) ⟨hs, StLe.refl s, by simp⟩ fun i a id hid ⟨a1, a2, a3⟩ => by
    obtain ⟨c, hc, _, _, _, hnode, _⟩ := child_of h hid
    obtain ⟨b1, b2, b3⟩ := putN_ok h f (s := a.2) hc a1
    unfold fPN
    rw [hnode]
    simp only
    refine ⟨fun s' he => ?_, fun e he => ?_⟩
    ·split at he
     ·rename_i h0
      obtain rfl := Sum.inl.inj he
      have := (encE_len (h.ent hc (b3 h0))).1
      refine ⟨b1, a2.trans b2, ?_⟩
      simp only [List.length_append]
      omega
     ·cases he
    ·split at he
     ·cases he
     ·rename_i h0
      obtain rfl := Sum.inr.inj he
      exact h0
   cases hq : runS (fPN l (putN l f)) ([], s) (childT l n.Id_) with
   | inl a =>
    obtain ⟨a1, a2, a3⟩ := hr.1 a hq
    have := childT_len l n.Id_
    have := h.len
    obtain ⟨c1, c2, c3⟩ := finP_ok (s := a.2) (k := 3) (d := a.1) (by omega) a1 (by omega)
    exact ⟨c1, a2.trans c2, c3⟩
   | inr e => exact ⟨hs, StLe.refl s, fun h0 => absurd h0 (hr.2 e hq)⟩
  ·exact finP_ok (by omega) hs (by omega)
theorem finP_P {s : api_Store} {k : Int} {d : Str} (hk : 1 ≤ k ∧ k ≤ 4) (hs : StOK s) (hd : d.length ≤ 1048576) : ∃ q, archive_put s k d = some q ∧ q.2.2 = (finP s k d).2.2 ∧ ((finP s k d).2.2 = 0 → q = finP s k d) := by
 obtain ⟨q, h1, h2⟩ := putP hk hs hd
 refine ⟨q, h1, ?_⟩
 unfold finP
 split
 ·rename_i he
  rw [if_pos he] at h2
  exact ⟨by rw [h2], fun _ => h2⟩
 ·rename_i he
  rw [if_neg he] at h2
  obtain ⟨s', rfl⟩ := h2
  exact ⟨rfl, fun e => absurd e he⟩
def bare (n : api_Node) : api_Node := api_Node.mk n.Id_ n.Parent_ n.Vers_ n.Name_ n.Mode_ n.Uid_ n.Gid_ n.Muid_ n.Atime_ n.Mtime_ []
theorem encE_bare (n : api_Node) (r : api_Root) : encE (bare n) r = encE n r := rfl
theorem EntOK.bare {n : api_Node} {r : api_Root} (h : EntOK n r) : EntOK (bare n) r := ⟨h.id, h.par, h.vers, h.mode, h.atime, h.mtime, h.name, h.uid, h.gid, h.muid, h.len, h.lev, h.score⟩
theorem putNode_P {t : api_Tree} (h : OkT t.Nodes_ t.Next_) : ∀ (f m : Nat) {s : api_Store} {n : api_Node}, f ≤ m → n ∈ t.Nodes_ → (t.Next_ - n.Id_).toNat < f → StOK s →
  ∃ q, archive_putNode m s t n.Id_ = some q ∧ q.2.2 = (putN t.Nodes_ f s n).2.2 ∧ ((putN t.Nodes_ f s n).2.2 = 0 → q.1 = (putN t.Nodes_ f s n).1 ∧ q.2.1 = archive_entry.mk (bare n) (putN t.Nodes_ f s n).2.1)
 | 0, _, s, n, _, _, hf, _ => by omega
 | f + 1, m, s, n, hm, hn, hf, hs => by
  obtain ⟨m, rfl⟩ : ∃ m', m = m' + 1 := ⟨m - 1, by omega⟩
  have hok := okNode_all (h.flds n hn)
  have hlen := h.len
  show ∃ q, archive_putNode_S (archive_putNode m) s t n.Id_ = some q ∧ _
  unfold archive_putNode_S putN
  have hnode : tree_Node t n.Id_ = some (n, true) := by rw [tree_node_eq t n.Id_ (by omega), nodeT_of h.srt hn]
  have hdir : archive_isDir (bare n) = some (hasI n.Mode_ 31) := by
   unfold archive_isDir
   rw [← isdir_eq hok.1]
   rfl
  have fin : ∀ {s1 : api_Store} {k : Int} {d : Str}, 1 ≤ k ∧ k ≤ 4 → StOK s1 → d.length ≤ 1048576 → ∃ q, ((archive_put s1 k d).bind fun y12 => some ((y12.1, (archive_entry.mk (bare n) y12.2.1), y12.2.2))) = some q ∧ q.2.2 = (finP s1 k d).2.2 ∧ ((finP s1 k d).2.2 = 0 → q.1 = (finP s1 k d).1 ∧ q.2.1 = archive_entry.mk (bare n) (finP s1 k d).2.1) := fun hk h1 hd => by
   obtain ⟨q, h2, h3, h4⟩ := finP_P hk h1 hd
   exact ⟨_, bind_eq h2 rfl, h3, fun e => by rw [h4 e]; exact ⟨rfl, rfl⟩⟩
  cases hD : hasI n.Mode_ 31 with
  | false =>
   obtain ⟨q, h1, h2⟩ := fin (s1 := s) (k := 1) (d := n.Data_) (by omega) hs (by omega)
   rw [hD] at hdir
   exact ⟨q, bind_eq hnode (bind_eq (a := Out.fall (1, n.Data_, s)) (bind_eq hdir rfl) h1), h2⟩
  | true =>
   rw [hD] at hdir
   have hcl := childT_len t.Nodes_ n.Id_
   have hstep : ∀ (a : Str × api_Store) (id : Int), id ∈ childT t.Nodes_ n.Id_ → StOK a.2 → ∃ c ∈ t.Nodes_, nodeT t.Nodes_ id = (c, true) ∧ c.Id_ = id ∧ (t.Next_ - c.Id_).toNat < f := fun a id hid _ => by
    obtain ⟨c, hc, e, _, _, hnd, hlt⟩ := child_of h hid
    have := h.nxt c hc
    exact ⟨c, hc, hnd, e, by omega⟩
   have hlp := loop_runS (body := archive_putNode_L1 (childT t.Nodes_ n.Id_) (archive_putNode m) t) (childT t.Nodes_ n.Id_) (fun (a : Str × api_Store) id => (match fPN t.Nodes_ (putN t.Nodes_ f) a id with | .inl a' => .inl a' | .inr e => .inr (a.2, e) : (Str × api_Store) ⊕ (api_Store × Int))) (fun i a => (a.1, (i : Int), a.2, childT t.Nodes_ n.Id_)) (fun i a => StOK a.2 ∧ a.1.length ≤ 333 * i) (fun a => Out.fall (a.1, a.2)) (fun e => Out.ret (e.1, (archive_entry.mk (api_Node.mk 0 0 0 [] 0 [] [] [] 0 0 []) (api_Root.mk [] 0 0)), e.2)) ([], s) (lt_big (by omega)) ⟨hs, by simp⟩ (fun i a hi hI => ?_) (fun a hI => ?_)
   ·
    have hmap : ∀ (xs : List Int) (a : Str × api_Store), (∀ b, runS (fPN t.Nodes_ (putN t.Nodes_ f)) a xs = .inl b → runS (fun (a : Str × api_Store) id => (match fPN t.Nodes_ (putN t.Nodes_ f) a id with | .inl a' => .inl a' | .inr e => .inr (a.2, e) : (Str × api_Store) ⊕ (api_Store × Int))) a xs = .inl b) ∧ (∀ e, runS (fPN t.Nodes_ (putN t.Nodes_ f)) a xs = .inr e → ∃ s', runS (fun (a : Str × api_Store) id => (match fPN t.Nodes_ (putN t.Nodes_ f) a id with | .inl a' => .inl a' | .inr e => .inr (a.2, e) : (Str × api_Store) ⊕ (api_Store × Int))) a xs = .inr (s', e)) := fun xs => by
     induction xs with
     | nil => exact fun a => ⟨fun b e => by rw [show a = b from Sum.inl.inj e]; rfl, fun e h => (by cases h)⟩
     | cons x xs ih =>
      intro a
      simp only [runS]
      cases hf2 : fPN t.Nodes_ (putN t.Nodes_ f) a x with
      | inl a' => exact ih a'
      | inr e => exact ⟨fun b h => (by cases h), fun e' h => ⟨a.2, by rw [Sum.inr.inj h]⟩⟩
    have hinv := runS_list (f := fPN t.Nodes_ (putN t.Nodes_ f)) (fun i a => StOK a.2 ∧ a.1.length ≤ 333 * i) (fun e => e ≠ 0) (xs := childT t.Nodes_ n.Id_) (k := 0) (s0 := ([], s)) ⟨hs, by simp⟩ fun i a id hid ⟨a1, a3⟩ => by
     obtain ⟨c, hc, hnd, _, _⟩ := hstep a id hid a1
     obtain ⟨b1, b2, b3⟩ := putN_ok h f (s := a.2) hc a1
     unfold fPN
     rw [hnd]
     simp only
     refine ⟨fun s' he => ?_, fun e he => ?_⟩
     ·split at he
      ·rename_i h0
       obtain rfl := Sum.inl.inj he
       have := (encE_len (h.ent hc (b3 h0))).1
       refine ⟨b1, ?_⟩
       simp only [List.length_append]
       omega
      ·cases he
     ·split at he
      ·cases he
      ·rename_i h0
       obtain rfl := Sum.inr.inj he
       exact h0
    cases hq : runS (fPN t.Nodes_ (putN t.Nodes_ f)) ([], s) (childT t.Nodes_ n.Id_) with
    | inl a =>
     rw [(hmap _ _).1 a hq] at hlp
     obtain ⟨a1, a2⟩ := hinv.1 a hq
     obtain ⟨q, h1, h2⟩ := fin (s1 := a.2) (k := 3) (d := a.1) (by omega) a1 (by omega)
     exact ⟨q, bind_eq hnode (bind_eq (a := Out.fall (3, a.1, a.2)) (bind_eq hdir (cond_t rfl (bind_eq (tree_children_eq t n.Id_ h) (bind_eq hlp rfl)))) h1), h2⟩
    | inr e =>
     obtain ⟨s', hs'⟩ := (hmap _ _).2 e hq
     rw [hs'] at hlp
     refine ⟨_, bind_eq hnode (bind_eq (a := Out.ret (s', (archive_entry.mk (api_Node.mk 0 0 0 [] 0 [] [] [] 0 0 []) (api_Root.mk [] 0 0)), e)) (bind_eq hdir (cond_t rfl (bind_eq (tree_children_eq t n.Id_ h) (bind_eq hlp rfl)))) rfl), rfl, fun e0 => absurd e0 (hinv.2 e hq)⟩
   ·obtain ⟨a1, a2⟩ := hI
    have hid := List.getElem_mem hi
    obtain ⟨c, hc, hnd, e1, hlt⟩ := hstep a _ hid a1
    obtain ⟨q, q1, q2, q3⟩ := putNode_P h f m (s := a.2) (n := c) (by omega) hc hlt a1
    obtain ⟨b1, b2, b3⟩ := putN_ok h f (s := a.2) hc a1
    rw [e1] at q1
    unfold fPN
    rw [hnd]
    simp only
    by_cases h0 : (putN t.Nodes_ f a.2 c).2.2 = 0
    ·rw [if_pos h0]
     obtain ⟨q4, q5⟩ := q3 h0
     have hent := (h.ent hc (b3 h0)).bare
     have hel := (encE_len hent).1
     constructor
     ·unfold archive_putNode_L1
      refine cond_t (lt_t hi) (bind_eq (getI_lt hi) (bind_eq q1 (cond_f (by rw [q2, h0]; rfl) (bind_eq (a := encE c (putN t.Nodes_ f a.2 c).2.1) (by rw [q5, encode_eq hent]; rfl) (bind_eq (cat_eq ?_) ?_)))))
      ·rw [encE_bare] at hel
       show a.1.length + _ ≤ _
       omega
      ·rw [q4, w_succ (by omega)]
       rfl
     ·intro s' he
      obtain rfl := Sum.inl.inj he
      rw [encE_bare] at hel
      refine ⟨b1, ?_⟩
      simp only [List.length_append]
      omega
    ·rw [if_neg h0]
     constructor
     ·unfold archive_putNode_L1
      refine cond_t (lt_t hi) (bind_eq (getI_lt hi) (bind_eq q1 (cond_t (by rw [q2]; simpa using h0) ?_)))
      rw [q2]
      rfl
     ·intro s' he
      cases he
   ·unfold archive_putNode_L1
    exact cond_f (lt_f _) rfl
def headT (t : api_Tree) (n : api_Node) (r : api_Root) : Str := leB t.Next_ 4 ++ leB (t.Nodes_.length : Int) 4 ++ encE n r
def rootN (l : List api_Node) : api_Node := l.headD zeroN
@[irreducible] def putT (l : List api_Node) (s : api_Store) : api_Store × api_Root × Int := putN l BIG s (rootN l)
theorem putT_eq (l : List api_Node) (s : api_Store) : putN l BIG s (rootN l) = putT l s := by unfold putT; rfl
def treeS (s : api_Store) (t : api_Tree) : api_Store × Str × Int :=
 if (putT t.Nodes_ s).2.2 = 0 then
  (if (putB (putT t.Nodes_ s).1 4 (headT t (rootN t.Nodes_) (putT t.Nodes_ s).2.1)).2.2 = 0 then putB (putT t.Nodes_ s).1 4 (headT t (rootN t.Nodes_) (putT t.Nodes_ s).2.1) else (s, [], (putB (putT t.Nodes_ s).1 4 (headT t (rootN t.Nodes_) (putT t.Nodes_ s).2.1)).2.2))
 else (s, [], (putT t.Nodes_ s).2.2)
theorem triple_eta {α β : Type} {q : α × β × Int} (h : q.2.2 = 0) : (q.1, q.2.1, (0 : Int)) = q := by rw [← h]
theorem root_of {l : List api_Node} {next : Int} (h : OkT l next) : rootN l ∈ l ∧ (rootN l).Id_ = 1 ∧ l[0]? = some (rootN l) ∧ hasI (rootN l).Mode_ 31 = true := by
 obtain ⟨r, q, rfl, h2, _, _, h5⟩ := h.root
 exact ⟨List.mem_cons_self, h2, rfl, h5⟩
theorem headT_len {t : api_Tree} {n : api_Node} {r : api_Root} (h : EntOK n r) : (headT t n r).length ≤ 341 := by
 have := (encE_len h).1
 simp only [headT, List.length_append, leB_len]
 omega
theorem fuel_big {t : api_Tree} (h : OkT t.Nodes_ t.Next_) {n : api_Node} (hn : n ∈ t.Nodes_) : (t.Next_ - n.Id_).toNat < BIG := by
 have h1 := h.ge hn
 have h2 := h.nx2
 exact lt_big (by omega)
theorem PutTree_eq {s : api_Store} {t : api_Tree} (hs : StOK s) (h : OkT t.Nodes_ t.Next_) (hr : tree_Right t = some true) : archive_PutTree s t = some (treeS s t) := by
 obtain ⟨r1, r2, r3, r4⟩ := root_of h
 obtain ⟨q, q1, q2, q3⟩ := putNode_P h BIG BIG (s := s) (n := rootN t.Nodes_) (Nat.le_refl _) r1 (fuel_big h r1) hs
 obtain ⟨b1, b2, b3⟩ := putN_ok h BIG (s := s) r1 hs
 rw [putT_eq] at q2 q3 b1 b3
 have hown := own_eq (s := s) (by have := hs.size; omega)
 have hlen := h.len
 have hnx := h.nx2
 have hge := h.ge r1
 have hnt := h.nxt _ r1
 rw [r2] at q1
 unfold archive_PutTree treeS
 refine bind_eq hr (cond_f rfl (bind_eq q1 ?_))
 generalize putT t.Nodes_ s = R at *
 by_cases h0 : R.2.2 = 0
 ·rw [if_pos h0]
  obtain ⟨q4, q5⟩ := q3 h0
  have hent := h.ent r1 (b3 h0)
  have hel := (encE_len hent).1
  have hput := Put_eq (s := R.1) (k := 4) (d := headT t (rootN t.Nodes_) R.2.1) (by omega) (by have := b1.size; omega) (by have := headT_len (t := t) hent; omega)
  refine cond_f (by rw [q2, h0]; rfl) (bind_eq (octet_put_eq t.Next_ 4 (by omega) (by omega) (by omega) (fun _ => by show t.Next_ < (4294967296 : Int); omega)) (bind_eq (octet_put_eq (t.Nodes_.length : Int) 4 (by omega) (by omega) (by omega) (fun _ => by show (t.Nodes_.length : Int) < (4294967296 : Int); omega)) (bind_eq (a := leB t.Next_ 4 ++ leB (t.Nodes_.length : Int) 4) (cat_eq (by simp [leB_len])) (bind_eq (a := encE (rootN t.Nodes_) R.2.1) (by rw [q5, encode_eq hent.bare]; rfl) (bind_eq (a := headT t (rootN t.Nodes_) R.2.1) (cat_eq (by simp only [List.length_append, leB_len]; omega)) ?_)))))
  rw [q4]
  refine bind_eq hput ?_
  generalize putB R.1 4 (headT t (rootN t.Nodes_) R.2.1) = B at *
  by_cases h1 : B.2.2 = 0
  ·rw [if_pos h1]
   exact cond_f (by simp [h1]) (congrArg some (triple_eta h1))
  ·rw [if_neg h1]
   exact cond_t (by simp [h1]) (bind_eq hown rfl)
 ·rw [if_neg h0]
  refine cond_t (by rw [q2]; simpa using h0) (bind_eq hown ?_)
  rw [q2]
theorem treeS_ok {s : api_Store} {t : api_Tree} (hs : StOK s) (h : OkT t.Nodes_ t.Next_) : StOK (treeS s t).1 ∧ StLe s (treeS s t).1 := by
 obtain ⟨r1, _⟩ := root_of h
 obtain ⟨b1, b2, _⟩ := putN_ok h BIG (s := s) r1 hs
 rw [putT_eq] at b1 b2
 unfold treeS
 generalize putT t.Nodes_ s = R at *
 split
 ·split
  ·obtain ⟨c1, c2, _⟩ := putB_ok (s := R.1) (k := 4) (d := headT t (rootN t.Nodes_) R.2.1) b1 (by omega)
   exact ⟨c1, b2.trans c2⟩
  ·exact ⟨hs, StLe.refl s⟩
 ·exact ⟨hs, StLe.refl s⟩
def smallN (i : Nat) (n : api_Node) : Bool := (((((decide (i ≥ 20)) || (decide ((n.Data_.length : Int) > 10000))) || (decide ((n.Name_.length : Int) > 1000))) || (decide ((n.Uid_.length : Int) > 1000))) || (decide ((n.Gid_.length : Int) > 1000))) || (decide ((n.Muid_.length : Int) > 1000))
theorem small_eq (t : api_Tree) (hl : t.Nodes_.length ≤ 9223372036854775807) : ∃ b, law16_small t = some b ∧ (b = true → t.Nodes_.length ≤ 20 ∧ ∀ n ∈ t.Nodes_, n.Name_.length ≤ 1000) := by
 unfold law16_small
 have h := loop_runS (body := law16_small_L1 t) t.Nodes_ (fun (a : Nat × Int) n => (if smallN a.1 n then .inr () else .inl (a.1 + 1, w64 (a.2 + (n.Data_.length : Int))) : (Nat × Int) ⊕ Unit)) (fun i a => (a.2, (i : Int))) (fun i a => a.1 = i) (fun a => Out.fall a.2) (fun _ => Out.ret false) (0, 0) (Nat.lt_of_le_of_lt hl (by decide)) rfl (fun i a hi hI => ?_) (fun a hI => ?_)
 ·have hinv := runS_list (f := fun (a : Nat × Int) n => (if smallN a.1 n then .inr () else .inl (a.1 + 1, w64 (a.2 + (n.Data_.length : Int))) : (Nat × Int) ⊕ Unit)) (fun i a => a.1 = i ∧ (i = 0 ∨ i ≤ 20)) (fun _ => True) (xs := t.Nodes_) (k := 0) (s0 := (0, 0)) ⟨rfl, .inl rfl⟩ fun i a n hn ⟨a1, a2⟩ => by
   refine ⟨fun s' he => ?_, fun _ _ => trivial⟩
   split at he
   ·cases he
   ·rename_i hs
    obtain rfl := Sum.inl.inj he
    unfold smallN at hs
    simp only [Bool.or_eq_true, decide_eq_true_eq, not_or] at hs
    exact ⟨by simp [a1], .inr (by omega)⟩
  have hall : ∀ (l : List api_Node) (a b : Nat × Int), runS (fun (a : Nat × Int) n => (if smallN a.1 n then .inr () else .inl (a.1 + 1, w64 (a.2 + (n.Data_.length : Int))) : (Nat × Int) ⊕ Unit)) a l = .inl b → ∀ n ∈ l, n.Name_.length ≤ 1000 := fun l => by
   induction l with
   | nil => intro a b _ n hn; cases hn
   | cons x l ih =>
    intro a b hb n hn
    simp only [runS] at hb
    by_cases hx : smallN a.1 x = true
    ·simp only [if_pos hx] at hb
     cases hb
    ·simp only [if_neg hx] at hb
     rcases List.mem_cons.1 hn with rfl | hn
     ·unfold smallN at hx
      simp only [Bool.or_eq_true, decide_eq_true_eq, not_or] at hx
      omega
     ·exact ih _ b hb n hn
  cases hq : runS (fun (a : Nat × Int) n => (if smallN a.1 n then .inr () else .inl (a.1 + 1, w64 (a.2 + (n.Data_.length : Int))) : (Nat × Int) ⊕ Unit)) (0, 0) t.Nodes_ with
  | inl a =>
   rw [hq] at h
   obtain ⟨_, h2⟩ := hinv.1 a hq
   exact ⟨_, bind_eq h rfl, fun _ => ⟨by omega, hall _ _ _ hq⟩⟩
  | inr e =>
   rw [hq] at h
   exact ⟨false, bind_eq h rfl, fun e => by cases e⟩
 ·constructor
  ·unfold law16_small_L1
   refine cond_t (lt_t hi) (bind_eq (getI_lt hi) ?_)
   have hsm : smallN a.1 t.Nodes_[i] = ((((((decide ((i : Int) ≥ 20)) || (decide ((t.Nodes_[i].Data_.length : Int) > 10000))) || (decide ((t.Nodes_[i].Name_.length : Int) > 1000))) || (decide ((t.Nodes_[i].Uid_.length : Int) > 1000))) || (decide ((t.Nodes_[i].Gid_.length : Int) > 1000))) || (decide ((t.Nodes_[i].Muid_.length : Int) > 1000))) := by
    unfold smallN
    rw [hI]
    congr 5
    rw [decide_eq_decide]
    omega
   simp only [← hsm]
   cases smallN a.1 t.Nodes_[i] with
   | true => rfl
   | false =>
    rw [w_succ (by omega)]
    rfl
  ·intro s' he
   split at he
   ·cases he
   ·obtain rfl := Sum.inl.inj he
    simp only [hI]
 ·unfold law16_small_L1
  exact cond_f (lt_f _) rfl
def TreeF (t : api_Tree) : Prop := t.Nodes_.length ≤ 9223372036854775807 ∧ ∀ n ∈ t.Nodes_, n.Mode_ ≤ 9223372036854775807 ∧ n.Name_.length ≤ 9223372036854775807
theorem tree_fit {t : api_Tree} (h : Fit te (.st 8) t) : TreeF t :=
 ⟨(h 0).2.1, fun n hn => ⟨((h 1).2.1.2 n hn).2.2.2.2.1.2, ((h 1).2.1.2 n hn).2.2.2.1⟩⟩
end Go.Proofs.YtfdmakpcmkbhhaaGreatDoor
namespace Go.Proofs.YtfdmakpcmkbhhaaGreatDoor
open Go.Rt Go.RowKit
def nD (s : Str) (w a : Nat) : Option (Int × Nat) := if s.length - a < w ∨ leV (win s a w) > 9223372036854775807 then none else some ((leV (win s a w) : Int), a + w)
def tD (s : Str) (a : Nat) : Option (Str × Nat) := takeT s a
def sD (s : Str) (a : Nat) : Option (Str × Nat) := if s.length - a < 32 then none else some (win s a 32, a + 32)
theorem nD_le {s : Str} {w a a' : Nat} {v : Int} (ha : a ≤ s.length) (h : nD s w a = some (v, a')) : a' ≤ s.length ∧ a' = a + w ∧ 0 ≤ v ∧ v ≤ 9223372036854775807 := by
 unfold nD at h
 split at h
 ·cases h
 ·simp only [Option.some.injEq, Prod.mk.injEq] at h
  omega
theorem sD_le {s t : Str} {a a' : Nat} (ha : a ≤ s.length) (h : sD s a = some (t, a')) : a' ≤ s.length ∧ a' = a + 32 ∧ t.length = 32 := by
 unfold sD at h
 split at h
 ·cases h
 ·simp only [Option.some.injEq, Prod.mk.injEq] at h
  obtain ⟨h1, h2⟩ := h
  refine ⟨by omega, by omega, ?_⟩
  rw [← h1, win_len (by omega)]
def DS (s : Str) (o : Option Nat) (d : archive_decoder) : Prop := d.s_ = s ∧ d.bad_ = o.isNone ∧ ∃ a : Nat, d.at_ = (a : Int) ∧ a ≤ s.length ∧ ∀ b, o = some b → a = b
def RS (s : Str) (o : Option Nat) (d : ref16_scan) : Prop := d.S_ = s ∧ d.Bad_ = o.isNone ∧ ∃ a : Nat, d.At_ = (a : Int) ∧ a ≤ s.length ∧ ∀ b, o = some b → a = b
theorem d_num {s : Str} (hs : s.length ≤ 2000000) {o : Option Nat} {d : archive_decoder} (h : DS s o d) {w : Nat} (h1 : 1 ≤ w) (h8 : w ≤ 8) :
  ∃ v d', archive_decoder_number d (w : Int) = some (v, d') ∧ DS s (o.bind fun a => (nD s w a).map (·.2)) d' ∧ ∀ a q, o = some a → nD s w a = some q → v = q.1 := by
 obtain ⟨e1, e2, a, e3, e4, e5⟩ := h
 unfold archive_decoder_number
 rw [e1, e3]
 have hg := get_eq s a w h1 h8 e4 (by omega)
 cases o with
 | none =>
  refine ⟨_, _, bind_eq hg (cond_t (by rw [e2]; rfl) rfl), ⟨rfl, rfl, a, rfl, e4, fun b hb => by cases hb⟩, fun a q ha => by cases ha⟩
 | some b =>
  obtain rfl := e5 b rfl
  simp only [Option.bind_some]
  unfold nD
  by_cases c1 : s.length - a < w
  ·rw [if_pos c1] at hg
   rw [if_pos (.inl c1)]
   exact ⟨_, _, bind_eq hg (cond_t (by rw [e2]; rfl) rfl), ⟨rfl, rfl, a, rfl, e4, fun b hb => by cases hb⟩, fun a q ha hq => by
    obtain rfl := Option.some.inj ha
    rw [if_pos (.inl c1)] at hq
    cases hq⟩
  ·rw [if_neg c1] at hg
   by_cases c2 : leV (win s a w) > 9223372036854775807
   ·rw [if_pos c2] at hg
    rw [if_pos (.inr c2)]
    exact ⟨_, _, bind_eq hg (cond_t (by rw [e2]; rfl) rfl), ⟨rfl, rfl, a, rfl, e4, fun b hb => by cases hb⟩, fun a q ha hq => by
     obtain rfl := Option.some.inj ha
     rw [if_pos (.inr c2)] at hq
     cases hq⟩
   ·rw [if_neg c2] at hg
    rw [if_neg (by omega)]
    exact ⟨_, _, bind_eq hg (cond_f (by rw [e2]; rfl) rfl), ⟨rfl, e2, a + w, rfl, by omega, fun b hb => (Option.some.inj hb).symm ▸ rfl⟩, fun a q ha hq => by
     obtain rfl := Option.some.inj ha
     rw [if_neg (by omega)] at hq
     obtain rfl := Option.some.inj hq
     rfl⟩
theorem d_text {s : Str} (hs : s.length ≤ 2000000) {o : Option Nat} {d : archive_decoder} (h : DS s o d) :
  ∃ v d', archive_decoder_text d = some (v, d') ∧ DS s (o.bind fun a => (tD s a).map (·.2)) d' ∧ ∀ a q, o = some a → tD s a = some q → v = q.1 := by
 obtain ⟨e1, e2, a, e3, e4, e5⟩ := h
 unfold archive_decoder_text
 rw [e1, e3]
 have hg := gettext_eq s a e4 hs
 cases o with
 | none =>
  refine ⟨_, _, bind_eq hg (cond_t (by rw [e2]; rfl) rfl), ⟨rfl, rfl, a, rfl, e4, fun b hb => by cases hb⟩, fun a q ha => by cases ha⟩
 | some b =>
  obtain rfl := e5 b rfl
  simp only [Option.bind_some]
  unfold tD
  cases ht : takeT s a with
  | none =>
   rw [ht] at hg
   exact ⟨_, _, bind_eq hg (cond_t (by rw [e2]; rfl) rfl), ⟨rfl, rfl, a, rfl, e4, fun b hb => by cases hb⟩, fun a q ha hq => by
    obtain rfl := Option.some.inj ha
    rw [ht] at hq
    cases hq⟩
  | some p =>
   obtain ⟨t, p⟩ := p
   rw [ht] at hg
   exact ⟨_, _, bind_eq hg (cond_f (by rw [e2]; rfl) rfl), ⟨rfl, e2, p, rfl, (takeT_le ht).1, fun b hb => Option.some.inj hb⟩, fun a q ha hq => by
    obtain rfl := Option.some.inj ha
    rw [ht] at hq
    obtain rfl := Option.some.inj hq
    rfl⟩
theorem d_score {s : Str} (hs : s.length ≤ 2000000) {o : Option Nat} {d : archive_decoder} (h : DS s o d) :
  ∃ v d', archive_decoder_score d = some (v, d') ∧ DS s (o.bind fun a => (sD s a).map (·.2)) d' ∧ ∀ a q, o = some a → sD s a = some q → v = q.1 := by
 obtain ⟨e1, e2, a, e3, e4, e5⟩ := h
 unfold archive_decoder_score
 rw [e1, e3]
 have el : w64 ((s.length : Int) - (a : Int)) = ((s.length - a : Nat) : Int) := by rw [w64_eq ⟨by omega, by omega⟩]; omega
 rw [el]
 cases o with
 | none =>
  refine ⟨_, _, cond_t (by rw [e2]; rfl) rfl, ⟨rfl, rfl, a, rfl, e4, fun b hb => by cases hb⟩, fun a q ha => by cases ha⟩
 | some b =>
  obtain rfl := e5 b rfl
  simp only [Option.bind_some]
  unfold sD
  by_cases c1 : s.length - a < 32
  ·rw [if_pos c1]
   exact ⟨_, _, cond_t (by rw [e2]; simp; omega) rfl, ⟨rfl, rfl, a, rfl, e4, fun b hb => by cases hb⟩, fun a q ha hq => by
    obtain rfl := Option.some.inj ha
    rw [if_pos c1] at hq
    cases hq⟩
  ·rw [if_neg c1]
   have w1 : w64 ((a : Int) + 32) = ((a + 32 : Nat) : Int) := by rw [w64_eq ⟨by omega, by omega⟩]; rfl
   have w2 : w64 (((a + 32 : Nat) : Int) - 32) = (a : Int) := by rw [w64_eq ⟨by omega, by omega⟩]; omega
   have hsub : subI s (w64 ((w64 ((a : Int) + 32)) - 32)) (w64 ((a : Int) + 32)) = some (win s a 32) := by
    rw [w1, w2, subI_eq (by omega) (by omega) (by omega), Int.toNat_natCast, Int.toNat_natCast, List.drop_take, Nat.add_sub_cancel_left]
    rfl
   exact ⟨_, _, cond_f (by rw [e2]; simp; omega) (bind_eq hsub rfl), ⟨rfl, e2, a + 32, w1, by omega, fun b hb => Option.some.inj hb⟩, fun a q ha hq => by
    obtain rfl := Option.some.inj ha
    rw [if_neg c1] at hq
    obtain rfl := Option.some.inj hq
    rfl⟩
theorem r_num {s : Str} (hs : s.length ≤ 2000000) {o : Option Nat} {d : ref16_scan} (h : RS s o d) {w : Nat} (h1 : 1 ≤ w) (h8 : w ≤ 8) :
  ∃ v d', ref16_scan_number d (w : Int) = some (v, d') ∧ RS s (o.bind fun a => (nD s w a).map (·.2)) d' ∧ ∀ a q, o = some a → nD s w a = some q → v = q.1 := by
 obtain ⟨e1, e2, a, e3, e4, e5⟩ := h
 unfold ref16_scan_number
 have el : w64 ((s.length : Int) - (a : Int)) = ((s.length - a : Nat) : Int) := by rw [w64_eq ⟨by omega, by omega⟩]; omega
 cases o with
 | none =>
  refine ⟨_, _, cond_t (by rw [e2]; rfl) rfl, ⟨e1, rfl, a, e3, e4, fun b hb => by cases hb⟩, fun a q ha => by cases ha⟩
 | some b =>
  obtain rfl := e5 b rfl
  simp only [Option.bind_some]
  by_cases c1 : s.length - a < w
  ·unfold nD
   rw [if_pos (.inl c1)]
   exact ⟨_, _, cond_t (by rw [e1, e2, e3, el]; simp; omega) rfl, ⟨e1, rfl, a, e3, e4, fun b hb => by cases hb⟩, fun a q ha hq => by
    obtain rfl := Option.some.inj ha
    rw [if_pos (.inl c1)] at hq
    cases hq⟩
  ·have h : a + w ≤ s.length := by omega
   have hc : (d.Bad_ || decide ((w64 ((d.S_.length : Int) - d.At_)) < (w : Int))) = false := by rw [e1, e2, e3, el]; simp; omega
   have hdl : ∀ j, j ≤ w → ((win s a w).drop (w - j)).length = j := fun j hj => by rw [List.length_drop, win_len h]; omega
   have hlv : ∀ j, j ≤ w → leV ((win s a w).drop (w - j)) < 2 ^ (8 * j) := fun j hj => by
    have := leV_lt ((win s a w).drop (w - j))
    rwa [hdl j hj] at this
   have hstep : ∀ j, j < w → leV ((win s a w).drop (w - j)) < 36028797018963968 → ref16_scan_number_L1 d (((leV ((win s a w).drop (w - j)) : Nat) : Int), (w : Int) - 1 - (j : Int)) = some (.next (((leV ((win s a w).drop (w - (j + 1))) : Nat) : Int), (w : Int) - 1 - ((j + 1 : Nat) : Int))) := fun j hj hlt => by
    unfold ref16_scan_number_L1
    refine cond_t (by simp; omega) (cond_f (by simp; omega) ?_)
    have ei : w64 (d.At_ + ((w : Int) - 1 - (j : Int))) = ((a + (w - 1 - j) : Nat) : Int) := by
     rw [e3, w64_eq ⟨by omega, by omega⟩]; omega
    show Option.bind (byteI d.S_ (w64 (d.At_ + ((w : Int) - 1 - (j : Int))))) _ = _
    rw [ei, e1]
    refine bind_eq (byteI_lt (by omega)) ?_
    rw [win_drop h hj]
    simp only [leV]
    generalize s[a + (w - 1 - j)]'(by omega) = b
    have hb := b.toNat_lt
    generalize leV ((win s a w).drop (w - j)) = v at hlt ⊢
    show some (Step.next (w64 ((w64 ((v : Int) * 256)) + (w64 (b.toNat : Int))), w64 ((w : Int) - 1 - (j : Int) - 1))) = _
    rw [w64_eq (n := (v : Int) * 256) ⟨by omega, by omega⟩, w64_eq (n := (b.toNat : Int)) ⟨by omega, by omega⟩, w64_eq (n := (v : Int) * 256 + (b.toNat : Int)) ⟨by omega, by omega⟩, w64_eq ⟨by omega, by omega⟩]
    congr 3
    ·omega
    ·omega
   have hsmall : ∀ j, j < w → j ≤ 6 → leV ((win s a w).drop (w - j)) < 36028797018963968 := fun j hj h6 => by
    have := hlv j (by omega)
    have hp : 2 ^ (8 * j) ≤ 2 ^ 48 := Nat.pow_le_pow_right (by omega) (by omega)
    omega
   have hfull : (win s a w).drop (w - w) = win s a w := by simp
   have e0 : (win s a w).drop (w - 0) = [] := List.drop_eq_nil_of_le (by rw [win_len h]; omega)
   have estart : ((0 : Int), w64 ((w : Int) - 1)) = (((leV ((win s a w).drop (w - 0)) : Nat) : Int), (w : Int) - 1 - ((0 : Nat) : Int)) := by
    rw [e0, w64_eq ⟨by omega, by omega⟩]
    simp [leV]
   by_cases c2 : leV (win s a w) > 9223372036854775807
   ·
    have hw8 : w = 8 := by
     have := hlv w (Nat.le_refl _)
     rw [hfull] at this
     rcases Nat.lt_or_ge w 8 with h' | h'
     ·have hp : 2 ^ (8 * w) ≤ 2 ^ 56 := Nat.pow_le_pow_right (by omega) (by omega)
      omega
     ·omega
    subst hw8
    have h7 : ¬ leV ((win s a 8).drop (8 - 7)) < 36028797018963968 := by
     have hd := win_drop (s := s) (at_ := a) (w := 8) (j := 7) h (by omega)
     have e8 : (win s a 8).drop (8 - (7 + 1)) = win s a 8 := by simp
     rw [e8] at hd
     rw [hd] at c2
     simp only [leV] at c2
     have := (s[a + (8 - 1 - 7)]'(by omega)).toNat_lt
     omega
    have hl : loopF (ref16_scan_number_L1 d) BIG (0, w64 (((8 : Nat) : Int) - 1)) = some (.ret (0, ref16_scan.mk d.S_ d.At_ true)) := by
     rw [estart]
     refine loop_traj (T := fun j => (((leV ((win s a 8).drop (8 - j)) : Nat) : Int), ((8 : Nat) : Int) - 1 - (j : Int))) 7 (by decide) (fun j hj => hstep j (by omega) (hsmall j (by omega) (by omega))) ?_
     unfold ref16_scan_number_L1
     exact cond_t (by show decide (((8 : Nat) : Int) - 1 - ((7 : Nat) : Int) ≥ 0) = true; decide) (cond_t (by show decide (((leV ((win s a 8).drop (8 - 7)) : Nat) : Int) ≥ 36028797018963968) = true; simp only [decide_eq_true_eq]; omega) rfl)
    unfold nD
    rw [if_pos (.inr c2)]
    exact ⟨_, _, cond_f hc (bind_eq hl rfl), ⟨e1, rfl, a, e3, e4, fun b hb => by cases hb⟩, fun a q ha hq => by
     obtain rfl := Option.some.inj ha
     rw [if_pos (.inr c2)] at hq
     cases hq⟩
   ·have hl : loopF (ref16_scan_number_L1 d) BIG (0, w64 ((w : Int) - 1)) = some (.fall ((leV (win s a w) : Nat) : Int)) := by
     rw [estart]
     refine loop_traj (T := fun j => (((leV ((win s a w).drop (w - j)) : Nat) : Int), (w : Int) - 1 - (j : Int))) w (lt_big (by omega)) (fun j hj => hstep j hj ?_) ?_
     ·rcases Nat.lt_or_ge 6 j with h6 | h6
      ·have : j = 7 ∧ w = 8 := by omega
       obtain ⟨rfl, rfl⟩ := this
       have hd := win_drop (s := s) (at_ := a) (w := 8) (j := 7) h (by omega)
       have e8 : (win s a 8).drop (8 - (7 + 1)) = win s a 8 := by simp
       rw [e8] at hd
       rw [hd] at c2
       simp only [leV] at c2
       omega
      ·exact hsmall j hj h6
     ·unfold ref16_scan_number_L1
      refine cond_f (by simp; omega) ?_
      rw [hfull]
    unfold nD
    rw [if_neg (by omega)]
    refine ⟨_, _, cond_f hc (bind_eq hl rfl), ⟨e1, e2, a + w, ?_, by omega, fun b hb => Option.some.inj hb⟩, fun a q ha hq => by
     obtain rfl := Option.some.inj ha
     rw [if_neg (by omega)] at hq
     obtain rfl := Option.some.inj hq
     rfl⟩
    show w64 (d.At_ + (w : Int)) = _
    rw [e3, w64_eq ⟨by omega, by omega⟩]
    rfl
theorem r_text {s : Str} (hs : s.length ≤ 2000000) {o : Option Nat} {d : ref16_scan} (h : RS s o d) (n : Nat) (hn : n ≤ 1000000) :
  ∃ v d', ref16_scan_text d (n : Int) = some (v, d') ∧ RS s (o.bind fun a => if s.length - a < n then none else some (a + n)) d' ∧ ∀ a, o = some a → ¬ s.length - a < n → v = win s a n := by
 obtain ⟨e1, e2, a, e3, e4, e5⟩ := h
 unfold ref16_scan_text
 have el : w64 ((s.length : Int) - (a : Int)) = ((s.length - a : Nat) : Int) := by rw [w64_eq ⟨by omega, by omega⟩]; omega
 rw [e1, e3, el]
 cases o with
 | none =>
  exact ⟨_, _, cond_t (by rw [e2]; rfl) rfl, ⟨rfl, rfl, a, rfl, e4, fun b hb => by cases hb⟩, fun a ha => by cases ha⟩
 | some b =>
  obtain rfl := e5 b rfl
  simp only [Option.bind_some]
  by_cases c1 : s.length - a < n
  ·rw [if_pos c1]
   exact ⟨_, _, cond_t (by rw [e2]; simp; omega) rfl, ⟨rfl, rfl, a, rfl, e4, fun b hb => by cases hb⟩, fun a ha hq => by
    obtain rfl := Option.some.inj ha
    exact absurd c1 hq⟩
  ·rw [if_neg c1]
   have w1 : w64 ((a : Int) + (n : Int)) = ((a + n : Nat) : Int) := by rw [w64_eq ⟨by omega, by omega⟩]; rfl
   have w2 : w64 (((a + n : Nat) : Int) - (n : Int)) = (a : Int) := by rw [w64_eq ⟨by omega, by omega⟩]; omega
   have hsub : subI s (w64 ((w64 ((a : Int) + (n : Int))) - (n : Int))) (w64 ((a : Int) + (n : Int))) = some (win s a n) := by
    rw [w1, w2, subI_eq (by omega) (by omega) (by omega), Int.toNat_natCast, Int.toNat_natCast, List.drop_take, Nat.add_sub_cancel_left]
    rfl
   exact ⟨_, _, cond_f (by rw [e2]; simp; omega) (bind_eq hsub rfl), ⟨rfl, e2, a + n, w1, by omega, fun b hb => Option.some.inj hb⟩, fun a ha hq => by
    obtain rfl := Option.some.inj ha
    rfl⟩
theorem r_counted {s : Str} (hs : s.length ≤ 2000000) {o : Option Nat} {d : ref16_scan} (h : RS s o d) :
  ∃ v d' t d2, ref16_scan_number d 2 = some (v, d') ∧ ref16_scan_text d' v = some (t, d2) ∧ RS s (o.bind fun a => (tD s a).map (·.2)) d2 ∧ ∀ a q, o = some a → tD s a = some q → t = q.1 := by
 obtain ⟨v, d', h1, h2, h3⟩ := r_num hs h (w := 2) (by omega) (by omega)
 cases o with
 | none =>
  obtain ⟨e1, e2, a, e3, e4, e5⟩ := h2
  have hbad : d'.Bad_ = true := e2
  refine ⟨v, d', [], ref16_scan.mk d'.S_ d'.At_ true, h1, ?_, ⟨e1, rfl, a, e3, e4, fun b hb => by cases hb⟩, fun a q ha => by cases ha⟩
  unfold ref16_scan_text
  exact cond_t (by rw [hbad]; rfl) rfl
 | some a =>
  have ha : a ≤ s.length := by
   obtain ⟨_, _, a', _, e4, e5⟩ := h
   have := e5 a rfl
   omega
  simp only [Option.bind_some] at h2 ⊢
  unfold tD takeT
  by_cases c1 : s.length < a + 2
  ·rw [if_pos c1]
   have hn : nD s 2 a = none := by unfold nD; rw [if_pos (.inl (by omega))]
   rw [hn] at h2
   obtain ⟨e1, e2, b, e3, e4, e5⟩ := h2
   have hbad : d'.Bad_ = true := e2
   refine ⟨v, d', [], ref16_scan.mk d'.S_ d'.At_ true, h1, ?_, ⟨e1, rfl, b, e3, e4, fun b hb => by cases hb⟩, fun a' q ha' hq => by
    obtain rfl := Option.some.inj ha'
    rw [if_pos c1] at hq
    cases hq⟩
   unfold ref16_scan_text
   exact cond_t (by rw [hbad]; rfl) rfl
  ·rw [if_neg c1]
   have hv2 := leV_two s a (by omega)
   have hn : nD s 2 a = some ((leV (win s a 2) : Int), a + 2) := by unfold nD; rw [if_neg (by omega)]
   rw [hn] at h2
   have hv : v = (leV (win s a 2) : Int) := h3 a _ rfl hn
   subst hv
   obtain ⟨t, d2, g1, g2, g3⟩ := r_text hs h2 (leV (win s a 2)) (by omega)
   simp only [Option.map_some, Option.bind_some] at g2 g3
   refine ⟨_, d', t, d2, h1, g1, ?_, fun a' q ha' hq => ?_⟩
   ·by_cases c2 : s.length < a + 2 + leV (win s a 2)
    ·rw [if_pos c2]
     rw [if_pos (by omega)] at g2
     exact g2
    ·rw [if_neg c2]
     rw [if_neg (by omega)] at g2
     exact g2
   ·obtain rfl := Option.some.inj ha'
    rw [if_neg c1] at hq
    split at hq
    ·cases hq
    ·rename_i c2
     obtain rfl := Option.some.inj hq
     exact g3 (a + 2) rfl (by omega)
def entD (s : Str) (a : Nat) : Option (api_Node × api_Root × Nat) :=
 (nD s 4 a).bind fun q1 => (nD s 4 q1.2).bind fun q2 => (nD s 4 q2.2).bind fun q3 => (nD s 4 q3.2).bind fun q4 => (nD s 8 q4.2).bind fun q5 => (nD s 8 q5.2).bind fun q6 =>
 (tD s q6.2).bind fun q7 => (tD s q7.2).bind fun q8 => (tD s q8.2).bind fun q9 => (tD s q9.2).bind fun q10 => (nD s 4 q10.2).bind fun q11 => (nD s 1 q11.2).bind fun q12 => (sD s q12.2).bind fun q13 =>
 some (api_Node.mk q1.1 q2.1 q3.1 q7.1 q4.1 q8.1 q9.1 q10.1 q5.1 q6.1 [], api_Root.mk q13.1 q11.1 q12.1, q13.2)
theorem ent_steps (s : Str) (o : Option Nat) : (o.bind fun a => (entD s a).map (·.2.2)) = ((((((((((((((o.bind fun a => (nD s 4 a).map (·.2)).bind fun a => (nD s 4 a).map (·.2)).bind fun a => (nD s 4 a).map (·.2)).bind fun a => (nD s 4 a).map (·.2)).bind fun a => (nD s 8 a).map (·.2)).bind fun a => (nD s 8 a).map (·.2)).bind fun a => (tD s a).map (·.2)).bind fun a => (tD s a).map (·.2)).bind fun a => (tD s a).map (·.2)).bind fun a => (tD s a).map (·.2)).bind fun a => (nD s 4 a).map (·.2)).bind fun a => (nD s 1 a).map (·.2)).bind fun a => (sD s a).map (·.2))) := by
 cases o with
 | none => rfl
 | some a =>
  simp only [Option.bind_some]
  unfold entD
  cases nD s 4 a with
  | none => rfl
  | some q1 =>
   simp only [Option.bind_some, Option.map_some]
   cases nD s 4 q1.2 with
   | none => rfl
   | some q2 =>
    simp only [Option.bind_some, Option.map_some]
    cases nD s 4 q2.2 with
    | none => rfl
    | some q3 =>
     simp only [Option.bind_some, Option.map_some]
     cases nD s 4 q3.2 with
     | none => rfl
     | some q4 =>
      simp only [Option.bind_some, Option.map_some]
      cases nD s 8 q4.2 with
      | none => rfl
      | some q5 =>
       simp only [Option.bind_some, Option.map_some]
       cases nD s 8 q5.2 with
       | none => rfl
       | some q6 =>
        simp only [Option.bind_some, Option.map_some]
        cases tD s q6.2 with
        | none => rfl
        | some q7 =>
         simp only [Option.bind_some, Option.map_some]
         cases tD s q7.2 with
         | none => rfl
         | some q8 =>
          simp only [Option.bind_some, Option.map_some]
          cases tD s q8.2 with
          | none => rfl
          | some q9 =>
           simp only [Option.bind_some, Option.map_some]
           cases tD s q9.2 with
           | none => rfl
           | some q10 =>
            simp only [Option.bind_some, Option.map_some]
            cases nD s 4 q10.2 with
            | none => rfl
            | some q11 =>
             simp only [Option.bind_some, Option.map_some]
             cases nD s 1 q11.2 with
             | none => rfl
             | some q12 =>
              simp only [Option.bind_some, Option.map_some]
              cases sD s q12.2 <;> rfl
theorem d_entry {s : Str} (hs : s.length ≤ 2000000) {o : Option Nat} {d : archive_decoder} (h : DS s o d) :
  ∃ x d', archive_decoder_entry d = some (x, d') ∧ DS s (o.bind fun a => (entD s a).map (·.2.2)) d' ∧ ∀ a q, o = some a → entD s a = some q → x = archive_entry.mk q.1 q.2.1 := by
 obtain ⟨v1, d1, a1, b1, c1⟩ := d_num hs h (w := 4) (by omega) (by omega)
 obtain ⟨v2, d2, a2, b2, c2⟩ := d_num hs b1 (w := 4) (by omega) (by omega)
 obtain ⟨v3, d3, a3, b3, c3⟩ := d_num hs b2 (w := 4) (by omega) (by omega)
 obtain ⟨v4, d4, a4, b4, c4⟩ := d_num hs b3 (w := 4) (by omega) (by omega)
 obtain ⟨v5, d5, a5, b5, c5⟩ := d_num hs b4 (w := 8) (by omega) (by omega)
 obtain ⟨v6, d6, a6, b6, c6⟩ := d_num hs b5 (w := 8) (by omega) (by omega)
 obtain ⟨v7, d7, a7, b7, c7⟩ := d_text hs b6
 obtain ⟨v8, d8, a8, b8, c8⟩ := d_text hs b7
 obtain ⟨v9, d9, a9, b9, c9⟩ := d_text hs b8
 obtain ⟨v10, d10, a10, b10, c10⟩ := d_text hs b9
 obtain ⟨v11, d11, a11, b11, c11⟩ := d_num hs b10 (w := 4) (by omega) (by omega)
 obtain ⟨v12, d12, a12, b12, c12⟩ := d_num hs b11 (w := 1) (by omega) (by omega)
 obtain ⟨v13, d13, a13, b13, c13⟩ := d_score hs b12
 refine ⟨_, d13, bind_eq a1 (bind_eq a2 (bind_eq a3 (bind_eq a4 (bind_eq a5 (bind_eq a6 (bind_eq a7 (bind_eq a8 (bind_eq a9 (bind_eq a10 (bind_eq a11 (bind_eq a12 (bind_eq a13 rfl)))))))))))), ?_, ?_⟩
 ·rw [ent_steps s o]
  exact b13
 ·intro a q ha hq
  subst ha
  unfold entD at hq
  obtain ⟨q1, p1, hq⟩ := Option.bind_eq_some_iff.1 hq
  obtain ⟨q2, p2, hq⟩ := Option.bind_eq_some_iff.1 hq
  obtain ⟨q3, p3, hq⟩ := Option.bind_eq_some_iff.1 hq
  obtain ⟨q4, p4, hq⟩ := Option.bind_eq_some_iff.1 hq
  obtain ⟨q5, p5, hq⟩ := Option.bind_eq_some_iff.1 hq
  obtain ⟨q6, p6, hq⟩ := Option.bind_eq_some_iff.1 hq
  obtain ⟨q7, p7, hq⟩ := Option.bind_eq_some_iff.1 hq
  obtain ⟨q8, p8, hq⟩ := Option.bind_eq_some_iff.1 hq
  obtain ⟨q9, p9, hq⟩ := Option.bind_eq_some_iff.1 hq
  obtain ⟨q10, p10, hq⟩ := Option.bind_eq_some_iff.1 hq
  obtain ⟨q11, p11, hq⟩ := Option.bind_eq_some_iff.1 hq
  obtain ⟨q12, p12, hq⟩ := Option.bind_eq_some_iff.1 hq
  obtain ⟨q13, p13, hq⟩ := Option.bind_eq_some_iff.1 hq
  obtain rfl := Option.some.inj hq
  have f1 := c1 a q1 rfl p1
  have f2 := c2 q1.2 q2 (by simp [p1]) p2
  have f3 := c3 q2.2 q3 (by simp [p1, p2]) p3
  have f4 := c4 q3.2 q4 (by simp [p1, p2, p3]) p4
  have f5 := c5 q4.2 q5 (by simp [p1, p2, p3, p4]) p5
  have f6 := c6 q5.2 q6 (by simp [p1, p2, p3, p4, p5]) p6
  have f7 := c7 q6.2 q7 (by simp [p1, p2, p3, p4, p5, p6]) p7
  have f8 := c8 q7.2 q8 (by simp [p1, p2, p3, p4, p5, p6, p7]) p8
  have f9 := c9 q8.2 q9 (by simp [p1, p2, p3, p4, p5, p6, p7, p8]) p9
  have f10 := c10 q9.2 q10 (by simp [p1, p2, p3, p4, p5, p6, p7, p8, p9]) p10
  have f11 := c11 q10.2 q11 (by simp [p1, p2, p3, p4, p5, p6, p7, p8, p9, p10]) p11
  have f12 := c12 q11.2 q12 (by simp [p1, p2, p3, p4, p5, p6, p7, p8, p9, p10, p11]) p12
  have f13 := c13 q12.2 q13 (by simp [p1, p2, p3, p4, p5, p6, p7, p8, p9, p10, p11, p12]) p13
  rw [f1, f2, f3, f4, f5, f6, f7, f8, f9, f10, f11, f12, f13]
theorem sD_text {s : Str} {a : Nat} : (sD s a).map (·.2) = if s.length - a < 32 then none else some (a + 32) := by
 unfold sD
 split <;> rfl
theorem r_entry {s : Str} (hs : s.length ≤ 2000000) {o : Option Nat} {d : ref16_scan} (h : RS s o d) :
  ∃ n r d', ref16_scan_entry d = some (n, r, d') ∧ RS s (o.bind fun a => (entD s a).map (·.2.2)) d' ∧ ∀ a q, o = some a → entD s a = some q → n = q.1 ∧ r = q.2.1 := by
 obtain ⟨v1, d1, a1, b1, c1⟩ := r_num hs h (w := 4) (by omega) (by omega)
 obtain ⟨v2, d2, a2, b2, c2⟩ := r_num hs b1 (w := 4) (by omega) (by omega)
 obtain ⟨v3, d3, a3, b3, c3⟩ := r_num hs b2 (w := 4) (by omega) (by omega)
 obtain ⟨v4, d4, a4, b4, c4⟩ := r_num hs b3 (w := 4) (by omega) (by omega)
 obtain ⟨v5, d5, a5, b5, c5⟩ := r_num hs b4 (w := 8) (by omega) (by omega)
 obtain ⟨v6, d6, a6, b6, c6⟩ := r_num hs b5 (w := 8) (by omega) (by omega)
 obtain ⟨_, _, v7, d7, a7, a7', b7, c7⟩ := r_counted hs b6
 obtain ⟨_, _, v8, d8, a8, a8', b8, c8⟩ := r_counted hs b7
 obtain ⟨_, _, v9, d9, a9, a9', b9, c9⟩ := r_counted hs b8
 obtain ⟨_, _, v10, d10, a10, a10', b10, c10⟩ := r_counted hs b9
 obtain ⟨v11, d11, a11, b11, c11⟩ := r_num hs b10 (w := 4) (by omega) (by omega)
 obtain ⟨v12, d12, a12, b12, c12⟩ := r_num hs b11 (w := 1) (by omega) (by omega)
 obtain ⟨v13, d13, a13, b13, c13⟩ := r_text hs b12 32 (by omega)
 refine ⟨_, _, d13, bind_eq a1 (bind_eq a2 (bind_eq a3 (bind_eq a4 (bind_eq a5 (bind_eq a6 (bind_eq a7 (bind_eq a7' (bind_eq a8 (bind_eq a8' (bind_eq a9 (bind_eq a9' (bind_eq a10 (bind_eq a10' (bind_eq a11 (bind_eq a12 (bind_eq a13 rfl)))))))))))))))), ?_, ?_⟩
 ·have e : (o.bind fun a => (entD s a).map (·.2.2)) = ((((((((((((((o.bind fun a => (nD s 4 a).map (·.2)).bind fun a => (nD s 4 a).map (·.2)).bind fun a => (nD s 4 a).map (·.2)).bind fun a => (nD s 4 a).map (·.2)).bind fun a => (nD s 8 a).map (·.2)).bind fun a => (nD s 8 a).map (·.2)).bind fun a => (tD s a).map (·.2)).bind fun a => (tD s a).map (·.2)).bind fun a => (tD s a).map (·.2)).bind fun a => (tD s a).map (·.2)).bind fun a => (nD s 4 a).map (·.2)).bind fun a => (nD s 1 a).map (·.2)).bind fun a => if s.length - a < 32 then none else some (a + 32))) := by
   simp only [← sD_text]
   exact ent_steps s o
  rw [e]
  exact b13
 ·intro a q ha hq
  subst ha
  unfold entD at hq
  obtain ⟨q1, p1, hq⟩ := Option.bind_eq_some_iff.1 hq
  obtain ⟨q2, p2, hq⟩ := Option.bind_eq_some_iff.1 hq
  obtain ⟨q3, p3, hq⟩ := Option.bind_eq_some_iff.1 hq
  obtain ⟨q4, p4, hq⟩ := Option.bind_eq_some_iff.1 hq
  obtain ⟨q5, p5, hq⟩ := Option.bind_eq_some_iff.1 hq
  obtain ⟨q6, p6, hq⟩ := Option.bind_eq_some_iff.1 hq
  obtain ⟨q7, p7, hq⟩ := Option.bind_eq_some_iff.1 hq
  obtain ⟨q8, p8, hq⟩ := Option.bind_eq_some_iff.1 hq
  obtain ⟨q9, p9, hq⟩ := Option.bind_eq_some_iff.1 hq
  obtain ⟨q10, p10, hq⟩ := Option.bind_eq_some_iff.1 hq
  obtain ⟨q11, p11, hq⟩ := Option.bind_eq_some_iff.1 hq
  obtain ⟨q12, p12, hq⟩ := Option.bind_eq_some_iff.1 hq
  obtain ⟨q13, p13, hq⟩ := Option.bind_eq_some_iff.1 hq
  obtain rfl := Option.some.inj hq
  have f1 := c1 a q1 rfl p1
  have f2 := c2 q1.2 q2 (by simp [p1]) p2
  have f3 := c3 q2.2 q3 (by simp [p1, p2]) p3
  have f4 := c4 q3.2 q4 (by simp [p1, p2, p3]) p4
  have f5 := c5 q4.2 q5 (by simp [p1, p2, p3, p4]) p5
  have f6 := c6 q5.2 q6 (by simp [p1, p2, p3, p4, p5]) p6
  have f7 := c7 q6.2 q7 (by simp [p1, p2, p3, p4, p5, p6]) p7
  have f8 := c8 q7.2 q8 (by simp [p1, p2, p3, p4, p5, p6, p7]) p8
  have f9 := c9 q8.2 q9 (by simp [p1, p2, p3, p4, p5, p6, p7, p8]) p9
  have f10 := c10 q9.2 q10 (by simp [p1, p2, p3, p4, p5, p6, p7, p8, p9]) p10
  have f11 := c11 q10.2 q11 (by simp [p1, p2, p3, p4, p5, p6, p7, p8, p9, p10]) p11
  have f12 := c12 q11.2 q12 (by simp [p1, p2, p3, p4, p5, p6, p7, p8, p9, p10, p11]) p12
  have h13 : ¬ s.length - q12.2 < 32 ∧ q13 = (win s q12.2 32, q12.2 + 32) := by
   unfold sD at p13
   split at p13
   ·cases p13
   ·rename_i hh
    exact ⟨hh, (Option.some.inj p13).symm⟩
  have f13 := c13 q12.2 (by simp [p1, p2, p3, p4, p5, p6, p7, p8, p9, p10, p11, p12]) h13.1
  rw [f1, f2, f3, f4, f5, f6, f7, f8, f9, f10, f11, f12, f13, h13.2]
  exact ⟨rfl, rfl⟩
end Go.Proofs.YtfdmakpcmkbhhaaGreatDoor
namespace Go.Proofs.YtfdmakpcmkbhhaaGreatDoor
open Go.Rt Go.RowKit
theorem entD_le {s : Str} {a : Nat} {q : api_Node × api_Root × Nat} (ha : a ≤ s.length) (h : entD s a = some q) : q.2.2 ≤ s.length ∧ a + 77 ≤ q.2.2 ∧ q.1.Mode_ ≤ 9223372036854775807 ∧ q.1.Name_.length ≤ s.length := by
 unfold entD at h
 obtain ⟨q1, p1, h⟩ := Option.bind_eq_some_iff.1 h
 obtain ⟨q2, p2, h⟩ := Option.bind_eq_some_iff.1 h
 obtain ⟨q3, p3, h⟩ := Option.bind_eq_some_iff.1 h
 obtain ⟨q4, p4, h⟩ := Option.bind_eq_some_iff.1 h
 obtain ⟨q5, p5, h⟩ := Option.bind_eq_some_iff.1 h
 obtain ⟨q6, p6, h⟩ := Option.bind_eq_some_iff.1 h
 obtain ⟨q7, p7, h⟩ := Option.bind_eq_some_iff.1 h
 obtain ⟨q8, p8, h⟩ := Option.bind_eq_some_iff.1 h
 obtain ⟨q9, p9, h⟩ := Option.bind_eq_some_iff.1 h
 obtain ⟨q10, p10, h⟩ := Option.bind_eq_some_iff.1 h
 obtain ⟨q11, p11, h⟩ := Option.bind_eq_some_iff.1 h
 obtain ⟨q12, p12, h⟩ := Option.bind_eq_some_iff.1 h
 obtain ⟨q13, p13, h⟩ := Option.bind_eq_some_iff.1 h
 obtain rfl := Option.some.inj h
 have b1 := nD_le ha p1
 have b2 := nD_le b1.1 p2
 have b3 := nD_le b2.1 p3
 have b4 := nD_le b3.1 p4
 have b5 := nD_le b4.1 p5
 have b6 := nD_le b5.1 p6
 have b7 := takeT_le p7
 have b8 := takeT_le p8
 have b9 := takeT_le p9
 have b10 := takeT_le p10
 have b11 := nD_le b10.1 p11
 have b12 := nD_le b11.1 p12
 have b13 := sD_le b12.1 p13
 simp only
 omega
def entsF (s : Str) : Nat → Nat → Option (List (api_Node × api_Root))
 | 0, _ => none
 | f + 1, a => if a < s.length then (entD s a).bind fun q => (entsF s f q.2.2).map fun l => (q.1, q.2.1) :: l else some []
def entOf (q : api_Node × api_Root) : archive_entry := archive_entry.mk q.1 q.2
theorem P_entries {s : Str} (hs : s.length ≤ 2000000) : ∀ (f a : Nat) (out : List archive_entry) {d : archive_decoder}, DS s (some a) d → a ≤ s.length → s.length - a < f → out.length ≤ a →
  ∃ o, loopF (archive_entries_L1 s) (f + 1) (d, out) = some o ∧ match entsF s f a with | some l => o.1.bad_ = false ∧ o.2 = out ++ l.map entOf | none => o.1.bad_ = true
 | 0, a, out, d, _, _, hf, _ => by omega
 | f + 1, a, out, d, hd, ha, hf, ho => by
  obtain ⟨e1, e2, a', e3, _, e5⟩ := id hd
  obtain rfl := e5 a rfl
  unfold entsF
  by_cases hlt : a' < s.length
  ·rw [if_pos hlt]
   obtain ⟨x, d', h1, h2, h3⟩ := d_entry hs hd
   have hstep : archive_entries_L1 s (d, out) = some (.next (d', out ++ [x])) := by
    unfold archive_entries_L1
    refine cond_t (by simp only [e2, e3]; simp; omega) (bind_eq h1 (bind_eq (room_eq (by simp; omega) (by simp; omega)) rfl))
   cases hq : entD s a' with
   | none =>
    simp only [Option.bind_some, hq, Option.map_none] at h2
    have hb : d'.bad_ = true := h2.2.1
    refine ⟨(d', out ++ [x]), loopF_step hstep (loopF_done (n := f) ?_), hb⟩
    unfold archive_entries_L1
    exact cond_f (by simp [hb]) rfl
   | some q =>
    obtain ⟨l1, l2, _⟩ := entD_le ha hq
    simp only [Option.bind_some, hq, Option.map_some] at h2 ⊢
    obtain ⟨o, g1, g2⟩ := P_entries hs f q.2.2 (out ++ [x]) h2 l1 (by omega) (by simp; omega)
    refine ⟨o, loopF_step hstep g1, ?_⟩
    have hx := h3 a' q rfl hq
    cases hl : entsF s f q.2.2 with
    | none => rw [hl] at g2; exact g2
    | some l =>
     rw [hl] at g2
     refine ⟨g2.1, ?_⟩
     rw [g2.2, hx]
     simp [entOf]
  ·rw [if_neg hlt]
   refine ⟨(d, out), loopF_done ?_, e2, by simp⟩
   unfold archive_entries_L1
   exact cond_f (by simp only [e3]; simp; omega) rfl
def kidsF (s : Str) (id : Int) (f a : Nat) : Option (List (api_Node × api_Root)) := (entsF s f a).bind fun l => if l.all (fun q => q.1.Parent_ == id) then some l else none
theorem R_entries {s : Str} (hs : s.length ≤ 2000000) (n : api_Node) (e : Int) : ∀ (f a : Nat) (ns : List api_Node) (rs : List api_Root) {d : ref16_scan}, RS s (some a) d → a ≤ s.length → s.length - a < f → ns.length ≤ a → rs.length ≤ a →
  loopF (ref16_getNode_L1 (s, e) n) f (ns, rs, d) = some (match kidsF s n.Id_ f a with | some l => .fall (ns ++ l.map (·.1), rs ++ l.map (·.2)) | none => .ret ([], 2))
 | 0, a, ns, rs, d, _, _, hf, _, _ => by omega
 | f + 1, a, ns, rs, d, hd, ha, hf, hn, hr => by
  obtain ⟨e1, e2, a', e3, _, e5⟩ := id hd
  obtain rfl := e5 a rfl
  unfold kidsF entsF
  by_cases hlt : a' < s.length
  ·rw [if_pos hlt]
   obtain ⟨m, r, d', h1, h2, h3⟩ := r_entry hs hd
   cases hq : entD s a' with
   | none =>
    simp only [Option.bind_some, hq, Option.map_none] at h2
    have hb : d'.Bad_ = true := h2.2.1
    refine loopF_done ?_
    unfold ref16_getNode_L1
    exact cond_t (by simp only [e3]; simp; omega) (bind_eq h1 (cond_t (by simp [hb]) rfl))
   | some q =>
    obtain ⟨l1, l2, _⟩ := entD_le ha hq
    simp only [Option.bind_some, hq, Option.map_some] at h2 ⊢
    obtain ⟨rfl, rfl⟩ := h3 a' q rfl hq
    have hb : d'.Bad_ = false := h2.2.1
    by_cases hp : q.1.Parent_ = n.Id_
    ·have hstep : ref16_getNode_L1 (s, e) n (ns, rs, d) = some (.next (ns ++ [q.1], rs ++ [q.2.1], d')) := by
      unfold ref16_getNode_L1
      exact cond_t (by simp only [e3]; simp; omega) (bind_eq h1 (cond_f (by simp [hb, hp]) (bind_eq (room_eq (by simp; omega) (by simp; omega)) (bind_eq (room_eq (by simp; omega) (by simp; omega)) rfl))))
     have ih := R_entries hs n e f q.2.2 (ns ++ [q.1]) (rs ++ [q.2.1]) h2 l1 (by omega) (by simp; omega) (by simp; omega)
     refine loopF_step hstep (ih.trans ?_)
     unfold kidsF
     cases entsF s f q.2.2 with
     | none => rfl
     | some l =>
      simp only [Option.bind_some, Option.map_some, List.all_cons, hp, beq_self_eq_true, Bool.true_and]
      cases hall : l.all (fun q => q.1.Parent_ == n.Id_) with
      | true => simp
      | false => simp
    ·have hz : ((Option.map (fun l => (q.1, q.2.1) :: l) (entsF s f q.2.2)).bind fun l => if l.all (fun q => q.1.Parent_ == n.Id_) then some l else none) = none := by
      cases entsF s f q.2.2 with
      | none => rfl
      | some l => simp [hp]
     rw [hz]
     refine loopF_done ?_
     unfold ref16_getNode_L1
     exact cond_t (by simp only [e3]; simp; omega) (bind_eq h1 (cond_t (by simp [hp]) rfl))
  ·rw [if_neg hlt]
   refine loopF_done ?_
   unfold ref16_getNode_L1
   refine cond_f (by simp only [e3]; simp; omega) ?_
   simp
abbrev Gn := List api_Node × List Str × Int
def fG (rec : api_Node → api_Root → Int → Gn) (left : Int) (acc : List api_Node × List Str) (q : api_Node × api_Root) : (List api_Node × List Str) ⊕ Gn :=
 if (rec q.1 q.2 (left - (acc.1.length : Int))).2.2 = 0 then .inl (acc.1 ++ (rec q.1 q.2 (left - (acc.1.length : Int))).1, acc.2 ++ (rec q.1 q.2 (left - (acc.1.length : Int))).2.1) else .inr ([], acc.2 ++ (rec q.1 q.2 (left - (acc.1.length : Int))).2.1, (rec q.1 q.2 (left - (acc.1.length : Int))).2.2)
def putData (n : api_Node) (d : Str) : api_Node := api_Node.mk n.Id_ n.Parent_ n.Vers_ n.Name_ n.Mode_ n.Uid_ n.Gid_ n.Muid_ n.Atime_ n.Mtime_ d
def kindN (n : api_Node) : Int := if n.Mode_ ≥ 2147483648 then 3 else 1
def getN (s : api_Store) : Nat → api_Node → api_Root → Int → Gn
 | 0, _, _, _ => ([], [], 2)
 | f + 1, n, r, left => if left < 1 then ([], [], 2) else
   if (fileR s (kindN n) r).2.2 = 0 then
    (if n.Mode_ ≥ 2147483648 then
     (match kidsF (fileR s (kindN n) r).1 n.Id_ ((fileR s (kindN n) r).1.length + 1) 0 with
      | none => ([], (fileR s (kindN n) r).2.1, 2)
      | some l => outS (fun acc => (acc.1, acc.2, 0)) (fun e => e) (runS (fG (getN s f) left) ([n], (fileR s (kindN n) r).2.1) l))
    else ([putData n (fileR s (kindN n) r).1], (fileR s (kindN n) r).2.1, 0))
   else ([], (fileR s (kindN n) r).2.1, (fileR s (kindN n) r).2.2)
theorem fileR_bound {s : api_Store} (hs : StOK s) (k : Int) (r : api_Root) : (fileR s k r).1.length ≤ 1048576 ∧ (fileR s k r).2.1.length ≤ 1057 := by
 unfold fileR
 split
 ·have h2 := hN_le (nP r.Length_.toNat)
  obtain ⟨h3, h4⟩ := rdF_bound hs k (hN (nP r.Length_.toNat)) r.Score_ r.Length_.toNat 0 r.Length_.toNat
  exact ⟨Nat.le_trans h3 (unitN_le h2), Nat.le_trans h4 (cntN_le h2)⟩
 ·simp
theorem getN_bound {s : api_Store} (hs : StOK s) : ∀ (f : Nat) {n : api_Node} {r : api_Root} {left : Int}, (getN s f n r left).2.2 = 0 → 1 ≤ (getN s f n r left).1.length ∧ ((getN s f n r left).1.length : Int) ≤ left ∧ (getN s f n r left).2.1.length ≤ 1057 * (getN s f n r left).1.length
 | 0, n, r, left, h => by cases h
 | f + 1, n, r, left, h => by
  obtain ⟨_, hb⟩ := fileR_bound hs (kindN n) r
  unfold getN at h ⊢
  split at h
  ·cases h
  ·rename_i hl
   rw [if_neg hl]
   split at h
   ·rename_i hc
    rw [if_pos hc]
    split at h
    ·rename_i hd
     rw [if_pos hd]
     split at h
     ·cases h
     ·rename_i l _
      have hi := runS_list (f := fG (getN s f) left) (fun _ acc => 1 ≤ acc.1.length ∧ (acc.1.length : Int) ≤ left ∧ acc.2.length ≤ 1057 * acc.1.length) (fun e => e.2.2 ≠ 0) (xs := l) (k := 0) (s0 := ([n], (fileR s (kindN n) r).2.1)) ⟨by simp, by simp; omega, by simp; omega⟩ fun i acc q _ ⟨a1, a2, a3⟩ => by
       unfold fG
       refine ⟨fun s' he => ?_, fun e he => ?_⟩
       ·split at he
        ·rename_i h0
         obtain ⟨b1, b2, b3⟩ := getN_bound hs f h0
         obtain rfl := Sum.inl.inj he
         simp only [List.length_append]
         omega
        ·cases he
       ·split at he
        ·cases he
        ·rename_i h0
         obtain rfl := Sum.inr.inj he
         exact h0
      cases hr : runS (fG (getN s f) left) ([n], (fileR s (kindN n) r).2.1) l with
      | inl acc => exact hi.1 acc hr
      | inr e =>
       rw [hr] at h
       exact absurd h (hi.2 e hr)
    ·rename_i hd
     rw [if_neg hd]
     simp only [List.length_singleton]
     omega
   ·rename_i hc
    exact absurd h hc
theorem isDir_eq (n : api_Node) : archive_isDir n = some (decide (n.Mode_ ≥ 2147483648)) := rfl
theorem add_kids {l : List (api_Node × api_Root)} {n : api_Node} {r : api_Root} (h : l.length ≤ 1073741824) : slices_ContainsFunc_archiveentryarchiveentry (l.map entOf) (fun (u1 : archive_entry) => Option.bind (__archive_builder__add_1 u1 (archive_entry.mk n r)) fun (v1 : Bool) => some v1) = some (!(l.all fun q => q.1.Parent_ == n.Id_)) := by
 unfold slices_ContainsFunc_archiveentryarchiveentry
 generalize hp : (fun (u : archive_entry) => u.node_.Parent_ != n.Id_) = p
 refine bind_eq (a := at_ p (l.map entOf)) ?_ ?_
 ·unfold slices_IndexFunc_archiveentryarchiveentry
  have h := loop_scan (body := slices_IndexFunc_archiveentryarchiveentry_L1 (l.map entOf) (fun (u1 : archive_entry) => Option.bind (__archive_builder__add_1 u1 (archive_entry.mk n r)) fun (v1 : Bool) => some v1)) (l.map entOf) (fun i x => if p x then some ((i : Nat) : Int) else none) (lt_big (by simp; omega)) (fun i hi => ?_) ?_
  ·rw [scan_ret h (fun r => rfl) (x := -1) rfl, at_getD]
  ·unfold slices_IndexFunc_archiveentryarchiveentry_L1
   refine cond_t (lt_t hi) (bind_eq (getI_lt hi) (bind_eq (a := p (l.map entOf)[i]) (by rw [← hp]; rfl) ?_))
   cases p (l.map entOf)[i] with
   | true => rfl
   | false =>
    rw [w_succ (by simp at hi; omega)]
    rfl
  ·unfold slices_IndexFunc_archiveentryarchiveentry_L1
   exact cond_f (lt_f _) rfl
 ·congr 1
  rcases at_find p (l.map entOf) with ⟨h1, h2⟩ | ⟨i, x, h1, h2, h3, h4, _⟩
  ·rw [h2]
   have : l.all (fun q => q.1.Parent_ == n.Id_) = true := by
    rw [List.all_eq_true]
    intro q hq
    have := List.find?_eq_none.1 h1 (entOf q) (List.mem_map.2 ⟨q, hq, rfl⟩)
    rw [← hp] at this
    simpa [entOf] using this
   rw [this]
   rfl
  ·rw [h2]
   have : l.all (fun q => q.1.Parent_ == n.Id_) = false := by
    rw [← Bool.not_eq_true, List.all_eq_true]
    intro hall
    obtain ⟨q, hq, rfl⟩ := List.mem_map.1 (List.mem_of_getElem? h3)
    have := hall q hq
    rw [← hp] at h4
    simp only [entOf, bne_iff_ne, ne_eq, beq_iff_eq] at h4 this
    exact h4 this
   rw [this]
   simp
end Go.Proofs.YtfdmakpcmkbhhaaGreatDoor
namespace Go.Proofs.YtfdmakpcmkbhhaaGreatDoor
open Go.Rt Go.RowKit
theorem kind_bind (n : api_Node) {R : Type} (k : Int → Option R) : (Option.bind ((archive_isDir n).bind fun y1 => bif y1 then some 3 else some 1) k) = k (kindN n) := by
 rw [isDir_eq]
 unfold kindN
 by_cases h : n.Mode_ ≥ 2147483648
 ·simp [h]
 ·simp [h]
theorem drop_cons_at {α : Type} {l : List α} {i : Nat} {x : α} {ys : List α} (h : l.drop i = x :: ys) : l[i]? = some x ∧ l.drop (i + 1) = ys ∧ i < l.length := by
 have hi : i < l.length := by
  rcases Nat.lt_or_ge i l.length with h' | h'
  ·exact h'
  ·rw [List.drop_of_length_le h'] at h; cases h
 rw [List.drop_eq_getElem_cons hi] at h
 injection h with h1 h2
 exact ⟨by rw [List.getElem?_eq_getElem hi, h1], h2, hi⟩
theorem entsF_len (s : Str) : ∀ (f a : Nat) {l : List (api_Node × api_Root)}, entsF s f a = some l → l.length ≤ f
 | 0, a, l, h => by cases h
 | f + 1, a, l, h => by
  unfold entsF at h
  split at h
  ·obtain ⟨q, _, h⟩ := Option.bind_eq_some_iff.1 h
   obtain ⟨l', h1, rfl⟩ := Option.map_eq_some_iff.1 h
   have := entsF_len s f _ h1
   simp
   omega
  ·obtain rfl := Option.some.inj h
   simp
theorem add_P {s : api_Store} (hs : StOK s) : ∀ (f m : Nat) {ns : List api_Node} {seen : List Str} {most : Int} {n : api_Node} {r : api_Root}, f ≤ m → (most - (ns.length : Int)).toNat < f → most ≤ 1024 → seen.length ≤ 1057 * ns.length + 2 →
  ∃ e b rd, archive_builder_add m (archive_builder_rest.mk ns most) (archive_reader.mk s seen) (archive_entry.mk n r) = some (e, b, rd) ∧ e = (getN s f n r (most - (ns.length : Int))).2.2 ∧ (e = 0 → b = archive_builder_rest.mk (ns ++ (getN s f n r (most - (ns.length : Int))).1) most ∧ rd = archive_reader.mk s (seen ++ (getN s f n r (most - (ns.length : Int))).2.1))
 | 0, _, ns, seen, most, n, r, _, hf, _, _ => by omega
 | f + 1, m, ns, seen, most, n, r, hm, hf, hmost, hseen => by
  obtain ⟨m, rfl⟩ : ∃ m', m = m' + 1 := ⟨m - 1, by omega⟩
  show ∃ e b rd, archive_builder_add_S (archive_builder_add m) _ _ _ = some (e, b, rd) ∧ _
  unfold getN
  by_cases hl : most - (ns.length : Int) < 1
  ·rw [if_pos hl]
   refine ⟨2, archive_builder_rest.mk ns most, archive_reader.mk s seen, ?_, rfl, fun e => by cases e⟩
   unfold archive_builder_add_S
   exact cond_t (by simp only [decide_eq_true_eq]; omega) rfl
  ·rw [if_neg hl]
   obtain ⟨hb1, hb2⟩ := fileR_bound hs (kindN n) r
   have hcond : ∀ {R : Type} (X Y : R), (bif (decide ((ns.length : Int) ≥ most)) then X else Y) = Y := fun X Y => by
    have : decide ((ns.length : Int) ≥ most) = false := by simp only [decide_eq_false_iff_not]; omega
    rw [this]
    rfl
   have hcon := contents_eq hs (kindN n) r (seen := seen) (by omega)
   by_cases hc : (fileR s (kindN n) r).2.2 = 0
   ·rw [if_pos hc]
    by_cases hd : n.Mode_ ≥ 2147483648
    ·rw [if_pos hd]
     have hdir : archive_isDir n = some true := by rw [isDir_eq]; simp [hd]
     -- the entries
     obtain ⟨o, o1, o2⟩ := P_entries (s := (fileR s (kindN n) r).1) (by omega) ((fileR s (kindN n) r).1.length + 1) 0 [] (d := archive_decoder.mk (fileR s (kindN n) r).1 0 false) ⟨rfl, rfl, 0, rfl, Nat.zero_le _, fun b hb => Option.some.inj hb⟩ (Nat.zero_le _) (by omega) (by simp)
     have hents : archive_entries (fileR s (kindN n) r).1 = some (o.2, !o.1.bad_) := by
      unfold archive_entries
      exact bind_eq (loopF_more o1 (Nat.le_of_lt (lt_big (by omega)))) rfl
     have hroom : room 128 ns [n] = some (ns ++ [n]) := room_eq (by simp; omega) (by simp; omega)
     have hpre : ∀ {R : Option (Int × archive_builder_rest × archive_reader)}, (Option.bind (bif (!(!o.1.bad_)) then some true else (slices_ContainsFunc_archiveentryarchiveentry o.2 (fun (u1 : archive_entry) => Option.bind (__archive_builder__add_1 u1 (archive_entry.mk n r)) fun (v1 : Bool) => some v1)).bind fun y7 => some y7) fun (y8 : Bool) => bif y8 then some ((2, (archive_builder_rest.mk (ns ++ [n]) most), archive_reader.mk s (seen ++ (fileR s (kindN n) r).2.1))) else (loopF (archive_builder_add_L1 (o.2, !o.1.bad_) (archive_builder_add m)) BIG (0, most, s.Cap_, s.Blocks_, seen ++ (fileR s (kindN n) r).2.1, ns ++ [n], o.2)).bind fun wo2 => match wo2 with
       | .ret r2 => some r2
       | .fall o2 => some ((0, (archive_builder_rest.mk o2.2.2.2.2 o2.1), (archive_reader.mk (api_Store.mk o2.2.1 o2.2.2.1) o2.2.2.2.1)))) = R → archive_builder_add_S (archive_builder_add m) (archive_builder_rest.mk ns most) (archive_reader.mk s seen) (archive_entry.mk n r) = R := fun hR => by
      unfold archive_builder_add_S
      simp only [hcond, kind_bind]
      refine bind_eq hcon (cond_f (by simp [hc]) (bind_eq hdir (cond_f rfl (bind_eq hroom (bind_eq hents hR)))))
     cases hE : entsF (fileR s (kindN n) r).1 ((fileR s (kindN n) r).1.length + 1) 0 with
     | none =>
      rw [hE] at o2
      have hk : kidsF (fileR s (kindN n) r).1 n.Id_ ((fileR s (kindN n) r).1.length + 1) 0 = none := by unfold kidsF; rw [hE]; rfl
      rw [hk]
      exact ⟨_, _, _, hpre (bind_eq (a := true) (cond_t (by rw [o2]; rfl) rfl) (cond_t rfl rfl)), rfl, fun e => by cases e⟩
     | some l =>
      rw [hE] at o2
      obtain ⟨o3, o4⟩ := o2
      rw [List.nil_append] at o4
      have hll := entsF_len _ _ _ hE
      have hkids := add_kids (l := l) (n := n) (r := r) (by omega)
      cases hall : l.all (fun q => q.1.Parent_ == n.Id_) with
      | false =>
       have hk : kidsF (fileR s (kindN n) r).1 n.Id_ ((fileR s (kindN n) r).1.length + 1) 0 = none := by unfold kidsF; rw [hE]; simp [hall]
       rw [hk]
       rw [hall] at hkids
       refine ⟨_, _, _, hpre (bind_eq (a := true) (cond_f (by rw [o3]; rfl) ?_) (cond_t rfl rfl)), rfl, fun e => by cases e⟩
       rw [o4]
       exact bind_eq hkids rfl
      | true =>
       have hk : kidsF (fileR s (kindN n) r).1 n.Id_ ((fileR s (kindN n) r).1.length + 1) 0 = some l := by unfold kidsF; rw [hE]; simp [hall]
       rw [hk]
       rw [hall] at hkids
       have hloop : ∀ (ys : List (api_Node × api_Root)) (i : Nat) (acc : List api_Node × List Str), l.drop i = ys → i ≤ l.length → 1 ≤ acc.1.length → (acc.1.length : Int) ≤ most - (ns.length : Int) → acc.2.length ≤ 1057 * acc.1.length →
         ∃ w, loopF (archive_builder_add_L1 (l.map entOf, true) (archive_builder_add m)) (ys.length + 1) ((i : Int), most, s.Cap_, s.Blocks_, seen ++ acc.2, ns ++ acc.1, l.map entOf) = some w ∧ (match runS (fG (getN s f) (most - (ns.length : Int))) acc ys with
          | .inl a => w = .fall (most, s.Cap_, s.Blocks_, seen ++ a.2, ns ++ a.1)
          | .inr e => e.2.2 ≠ 0 ∧ ∃ b rd, w = .ret (e.2.2, b, rd)) := by
        intro ys
        induction ys with
        | nil =>
         intro i acc hdr hi _ _ _
         have : i = l.length := by
          have := congrArg List.length hdr
          simp at this
          omega
         subst this
         refine ⟨.fall (most, s.Cap_, s.Blocks_, seen ++ acc.2, ns ++ acc.1), loopF_done ?_, by simp [runS]⟩
         unfold archive_builder_add_L1
         exact cond_f (by simp) rfl
        | cons q ys ih =>
         intro i acc hdr hi a1 a2 a3
         obtain ⟨g1, g2, g3⟩ := drop_cons_at hdr
         obtain ⟨e, b, rd, k1, k2, k3⟩ := add_P hs f m (ns := ns ++ acc.1) (seen := seen ++ acc.2) (most := most) (n := q.1) (r := q.2) (by omega) (by simp; omega) hmost (by simp; omega)
         have hleft : most - ((ns ++ acc.1).length : Int) = most - (ns.length : Int) - (acc.1.length : Int) := by simp; omega
         rw [hleft] at k2 k3
         have hget : getI (l.map entOf) (i : Int) = some (archive_entry.mk q.1 q.2) := by rw [getI_nat, List.getElem?_map, g1]; rfl
         simp only [runS]
         unfold fG
         by_cases h0 : (getN s f q.1 q.2 (most - (ns.length : Int) - (acc.1.length : Int))).2.2 = 0
         ·rw [if_pos h0]
          obtain ⟨k4, k5⟩ := k3 (k2.trans h0)
          obtain ⟨c1, c2, c3⟩ := getN_bound hs f h0
          obtain ⟨w, w1, w2⟩ := ih (i + 1) (acc.1 ++ (getN s f q.1 q.2 (most - (ns.length : Int) - (acc.1.length : Int))).1, acc.2 ++ (getN s f q.1 q.2 (most - (ns.length : Int) - (acc.1.length : Int))).2.1) g2 (by omega) (by simp; omega) (by simp; omega) (by simp; omega)
          refine ⟨w, loopF_step ?_ w1, w2⟩
          unfold archive_builder_add_L1
          refine cond_t (by simp; omega) (bind_eq hget (bind_eq k1 (cond_f (by rw [k2, h0]; rfl) ?_)))
          rw [k4, k5, w_succ (by omega), List.append_assoc, List.append_assoc]
         ·rw [if_neg h0]
          refine ⟨.ret (e, b, rd), loopF_done ?_, h0, b, rd, by rw [k2]⟩
          unfold archive_builder_add_L1
          exact cond_t (by simp; omega) (bind_eq hget (bind_eq k1 (cond_t (by rw [k2]; simpa using h0) rfl)))
       obtain ⟨w, w1, w2⟩ := hloop l 0 ([n], (fileR s (kindN n) r).2.1) (by simp) (Nat.zero_le _) (by simp) (by simp; omega) (by simp; omega)
       have w1' := loopF_more w1 (show l.length + 1 ≤ BIG from Nat.le_of_lt (lt_big (by omega)))
       have hgo : ∀ {R}, ((some w : Option (Out (Int × Int × List api_Block × List Str × List api_Node) (Int × archive_builder_rest × archive_reader))).bind fun wo2 => match wo2 with
         | .ret r2 => some r2
         | .fall o2 => some ((0, (archive_builder_rest.mk o2.2.2.2.2 o2.1), (archive_reader.mk (api_Store.mk o2.2.1 o2.2.2.1) o2.2.2.2.1)))) = R → archive_builder_add_S (archive_builder_add m) (archive_builder_rest.mk ns most) (archive_reader.mk s seen) (archive_entry.mk n r) = R := fun hR => by
        refine hpre (bind_eq (a := false) (cond_f (by rw [o3]; rfl) ?_) (cond_f rfl ?_))
        ·rw [o4]
         exact bind_eq hkids rfl
        ·rw [o4, o3]
         have w1'' : loopF (archive_builder_add_L1 (l.map entOf, !false) (archive_builder_add m)) BIG (0, most, s.Cap_, s.Blocks_, seen ++ (fileR s (kindN n) r).2.1, ns ++ [n], l.map entOf) = some w := w1'
         rw [w1'']
         exact hR
       cases hr : runS (fG (getN s f) (most - (ns.length : Int))) ([n], (fileR s (kindN n) r).2.1) l with
       | inl a =>
        rw [hr] at w2
        subst w2
        simp only [hr, outS]
        exact ⟨_, _, _, hgo rfl, rfl, fun _ => ⟨rfl, rfl⟩⟩
       | inr e =>
        rw [hr] at w2
        obtain ⟨h0, b, rd, rfl⟩ := w2
        simp only [hr, outS]
        exact ⟨_, _, _, hgo rfl, rfl, fun e0 => absurd e0 h0⟩
    ·rw [if_neg hd]
     have hdir : archive_isDir n = some false := by rw [isDir_eq]; simp [hd]
     refine ⟨0, archive_builder_rest.mk (ns ++ [putData n (fileR s (kindN n) r).1]) most, archive_reader.mk s (seen ++ (fileR s (kindN n) r).2.1), ?_, rfl, fun _ => ⟨rfl, rfl⟩⟩
     unfold archive_builder_add_S
     simp only [hcond, kind_bind]
     exact bind_eq hcon (cond_f (by simp [hc]) (bind_eq hdir (cond_t rfl (bind_eq (room_eq (by simp; omega) (by simp; omega)) rfl))))
   ·rw [if_neg hc]
    refine ⟨(fileR s (kindN n) r).2.2, archive_builder_rest.mk ns most, archive_reader.mk s (seen ++ (fileR s (kindN n) r).2.1), ?_, rfl, fun e => absurd e hc⟩
    unfold archive_builder_add_S
    simp only [hcond, kind_bind]
    exact bind_eq hcon (cond_t (by simpa using hc) rfl)
end Go.Proofs.YtfdmakpcmkbhhaaGreatDoor
namespace Go.Proofs.YtfdmakpcmkbhhaaGreatDoor
open Go.Rt Go.RowKit
theorem get_R {s : api_Store} (hs : StOK s) : ∀ (f m : Nat) {n : api_Node} {r : api_Root} {left : Int}, f ≤ m → left.toNat < f → left ≤ 1024 →
  ∃ q, ref16_getNode m s n r left = some q ∧ q.2 = (getN s f n r left).2.2 ∧ (q.2 = 0 → q.1 = (getN s f n r left).1)
 | 0, _, n, r, left, _, hf, _ => by omega
 | f + 1, m, n, r, left, hm, hf, hmost => by
  obtain ⟨m, rfl⟩ : ∃ m', m = m' + 1 := ⟨m - 1, by omega⟩
  show ∃ q, ref16_getNode_S (ref16_getNode m) s n r left = some q ∧ _
  unfold getN
  by_cases hl : left < 1
  ·rw [if_pos hl]
   refine ⟨([], 2), ?_, rfl, fun e => by cases e⟩
   unfold ref16_getNode_S
   exact bind_eq (a := true) (cond_t (by simpa using hl) rfl) (cond_t rfl rfl)
  ·rw [if_neg hl]
   obtain ⟨hb1, hb2⟩ := fileR_bound hs (kindN n) r
   cases hok : okRoot r with
   | false =>
    have hfr : fileR s (kindN n) r = ([], [], 2) := by unfold fileR; rw [hok]; rfl
    rw [hfr]
    refine ⟨([], 2), ?_, rfl, fun e => by cases e⟩
    unfold ref16_getNode_S
    exact bind_eq (a := true) (cond_f (by simpa using hl) (bind_eq (ref_valid_eq r) (by rw [hok]; rfl))) (cond_t rfl rfl)
   | true =>
    have hpre : ∀ {R}, ((ref10_IsDir n.Mode_).bind fun y3 => (bif (!y3) then (ref16_contents s 1 r).bind fun y4 => some (([putData n y4.1], y4.2)) else (ref16_contents s 3 r).bind fun y5 => (bif (y5.2 != 0) then some (([], y5.2)) else Option.bind (loopF (ref16_getNode_L1 y5 n) BIG ([], [], (ref16_scan.mk y5.1 0 false))) fun (wo1 : Out ((List api_Node) × (List api_Root)) ((List api_Node) × Int)) => match wo1 with
      | .ret r1 => some r1
      | .fall o1 => (loopF (ref16_getNode_L2 (ref16_getNode m) s left) BIG (0, o1.1, o1.2, [n])).bind fun wo2 => match wo2 with
       | .ret r2 => some r2
       | .fall o2 => some ((o2, 0))))) = R → ref16_getNode_S (ref16_getNode m) s n r left = R := fun hR => by
     unfold ref16_getNode_S
     exact bind_eq (a := false) (cond_f (by simpa using hl) (bind_eq (ref_valid_eq r) (by rw [hok]; rfl))) (cond_f rfl hR)
    by_cases hd : n.Mode_ ≥ 2147483648
    ·have hk : kindN n = 3 := if_pos hd
     have hdir : ref10_IsDir n.Mode_ = some true := by unfold ref10_IsDir; simp [hd]
     rw [hk] at hb1 hb2 ⊢
     have hcon := ref_contents_eq hs (k := 3) (by omega) r
     by_cases hc : (fileR s 3 r).2.2 = 0
     ·rw [if_pos hc, if_pos hd]
      have hen := loopF_more (R_entries (s := (fileR s 3 r).1) (by omega) n (fileR s 3 r).2.2 ((fileR s 3 r).1.length + 1) 0 [] [] (d := ref16_scan.mk (fileR s 3 r).1 0 false) ⟨rfl, rfl, 0, rfl, Nat.zero_le _, fun b hb => Option.some.inj hb⟩ (Nat.zero_le _) (by omega) (by simp) (by simp)) (show (fileR s 3 r).1.length + 1 ≤ BIG from Nat.le_of_lt (lt_big (by omega)))
      cases hkd : kidsF (fileR s 3 r).1 n.Id_ ((fileR s 3 r).1.length + 1) 0 with
      | none =>
       rw [hkd] at hen
       exact ⟨([], 2), hpre (bind_eq hdir (cond_f rfl (bind_eq hcon (cond_f (by simp [hc]) (bind_eq hen rfl))))), rfl, fun e => by cases e⟩
      | some l =>
       rw [hkd] at hen
       have hll : l.length ≤ (fileR s 3 r).1.length + 1 := by
        unfold kidsF at hkd
        obtain ⟨l', h1, h2⟩ := Option.bind_eq_some_iff.1 hkd
        split at h2
        ·obtain rfl := Option.some.inj h2
         exact entsF_len _ _ _ h1
        ·cases h2
       have hloop : ∀ (ys : List (api_Node × api_Root)) (i : Nat) (acc : List api_Node × List Str), l.drop i = ys → i ≤ l.length → 1 ≤ acc.1.length → (acc.1.length : Int) ≤ left →
         ∃ w, loopF (ref16_getNode_L2 (ref16_getNode m) s left) (ys.length + 1) ((i : Int), l.map (·.1), l.map (·.2), acc.1) = some w ∧ (match runS (fG (getN s f) left) acc ys with
          | .inl a => w = .fall a.1
          | .inr e => e.2.2 ≠ 0 ∧ w = .ret ([], e.2.2)) := by
        intro ys
        induction ys with
        | nil =>
         intro i acc hdr hi _ _
         have : i = l.length := by
          have := congrArg List.length hdr
          simp at this
          omega
         subst this
         refine ⟨.fall acc.1, loopF_done ?_, by simp [runS]⟩
         unfold ref16_getNode_L2
         exact cond_f (by simp) rfl
        | cons q ys ih =>
         intro i acc hdr hi a1 a2
         obtain ⟨g1, g2, g3⟩ := drop_cons_at hdr
         have hleft : w64 (left - (acc.1.length : Int)) = left - (acc.1.length : Int) := w64_eq ⟨by omega, by omega⟩
         obtain ⟨p, k1, k2, k3⟩ := get_R hs f m (n := q.1) (r := q.2) (left := left - (acc.1.length : Int)) (by omega) (by omega) (by omega)
         have hget1 : getI (l.map (·.1)) (i : Int) = some q.1 := by rw [getI_nat, List.getElem?_map, g1]; rfl
         have hget2 : getI (l.map (·.2)) (i : Int) = some q.2 := by rw [getI_nat, List.getElem?_map, g1]; rfl
         simp only [runS]
         unfold fG
         by_cases h0 : (getN s f q.1 q.2 (left - (acc.1.length : Int))).2.2 = 0
         ·rw [if_pos h0]
          have k4 := k3 (k2.trans h0)
          obtain ⟨c1, c2, c3⟩ := getN_bound hs f h0
          obtain ⟨w, w1, w2⟩ := ih (i + 1) (acc.1 ++ (getN s f q.1 q.2 (left - (acc.1.length : Int))).1, acc.2 ++ (getN s f q.1 q.2 (left - (acc.1.length : Int))).2.1) g2 (by omega) (by simp; omega) (by simp; omega)
          refine ⟨w, loopF_step ?_ w1, w2⟩
          unfold ref16_getNode_L2
          refine cond_t (by simp; omega) (bind_eq hget1 (bind_eq hget2 (bind_eq (by rw [hleft]; exact k1) (cond_f (by rw [k2, h0]; rfl) (bind_eq (a := acc.1 ++ (getN s f q.1 q.2 (left - (acc.1.length : Int))).1) (by rw [k4]; exact room_eq (show acc.1.length + _ ≤ _ by omega) (show (acc.1.length + _) * 128 ≤ _ by omega)) ?_)))))
          rw [w_succ (by omega)]
         ·rw [if_neg h0]
          refine ⟨.ret ([], p.2), loopF_done ?_, h0, by rw [k2]⟩
          unfold ref16_getNode_L2
          exact cond_t (by simp; omega) (bind_eq hget1 (bind_eq hget2 (bind_eq (by rw [hleft]; exact k1) (cond_t (by rw [k2]; simpa using h0) rfl))))
       obtain ⟨w, w1, w2⟩ := hloop l 0 ([n], (fileR s 3 r).2.1) (by simp) (Nat.zero_le _) (by simp) (by simp; omega)
       have w1' := loopF_more w1 (show l.length + 1 ≤ BIG from Nat.le_of_lt (lt_big (by omega)))
       cases hr : runS (fG (getN s f) left) ([n], (fileR s 3 r).2.1) l with
       | inl a =>
        rw [hr] at w2
        subst w2
        simp only [hr, outS]
        exact ⟨(a.1, 0), hpre (bind_eq hdir (cond_f rfl (bind_eq hcon (cond_f (by simp [hc]) (bind_eq hen (bind_eq w1' rfl)))))), rfl, fun _ => rfl⟩
       | inr e =>
        rw [hr] at w2
        obtain ⟨h0, rfl⟩ := w2
        simp only [hr, outS]
        exact ⟨([], e.2.2), hpre (bind_eq hdir (cond_f rfl (bind_eq hcon (cond_f (by simp [hc]) (bind_eq hen (bind_eq w1' rfl)))))), rfl, fun e0 => absurd e0 h0⟩
     ·rw [if_neg hc]
      exact ⟨([], (fileR s 3 r).2.2), hpre (bind_eq hdir (cond_f rfl (bind_eq hcon (cond_t (by simpa using hc) rfl)))), rfl, fun e => absurd e hc⟩
    ·have hk : kindN n = 1 := if_neg hd
     have hdir : ref10_IsDir n.Mode_ = some false := by unfold ref10_IsDir; simp [hd]
     rw [hk]
     have hcon := ref_contents_eq hs (k := 1) (by omega) r
     refine ⟨([putData n (fileR s 1 r).1], (fileR s 1 r).2.2), hpre (bind_eq hdir (cond_t rfl (bind_eq hcon rfl))), ?_, fun e => ?_⟩
     ·split
      ·rename_i hc
       exact hc
      ·rfl
     ·have hc : (fileR s 1 r).2.2 = 0 := e
      rw [if_pos hc, if_neg hd]
def leN (x : api_Node) : List api_Node → Nat
 | [] => 0
 | y :: l => if y.Id_ ≤ x.Id_ then leN x l + 1 else 0
theorem leN_le (x : api_Node) : ∀ l, leN x l ≤ l.length
 | [] => Nat.le_refl _
 | y :: l => by
  unfold leN
  have := leN_le x l
  split <;> simp <;> omega
theorem leN_lt (x : api_Node) : ∀ {l : List api_Node} {i : Nat} (h : i < l.length), i < leN x l → l[i].Id_ ≤ x.Id_
 | y :: l, 0, _, hi => by
  unfold leN at hi
  split at hi
  ·assumption
  ·omega
 | y :: l, i + 1, h, hi => by
  unfold leN at hi
  split at hi
  ·exact leN_lt x (l := l) (i := i) (by simpa using h) (by omega)
  ·omega
theorem leN_at (x : api_Node) : ∀ {l : List api_Node} (h : leN x l < l.length), ¬ l[leN x l].Id_ ≤ x.Id_
 | y :: l, h => by
  by_cases hy : y.Id_ ≤ x.Id_
  ·have e : leN x (y :: l) = leN x l + 1 := by simp [leN, hy]
   simp only [e] at h ⊢
   exact leN_at x (l := l) (by simpa using h)
  ·have e : leN x (y :: l) = 0 := by simp [leN, hy]
   simp only [e]
   exact hy
def insA (out : List api_Node) (x : api_Node) : List api_Node := out.take (leN x out) ++ [x] ++ out.drop (leN x out)
theorem insA_len (out : List api_Node) (x : api_Node) : (insA out x).length = out.length + 1 := by
 have := leN_le x out
 unfold insA
 simp
 omega
theorem insA_perm (out : List api_Node) (x : api_Node) : (insA out x).Perm (x :: out) := by
 unfold insA
 rw [List.append_assoc]
 have h := List.perm_middle (a := x) (l₁ := out.take (leN x out)) (l₂ := out.drop (leN x out))
 rw [List.take_append_drop] at h
 exact h
theorem insA_sorted {out : List api_Node} (x : api_Node) (h : out.Pairwise fun a b => leK (fun n : api_Node => n.Id_) a b = true) : (insA out x).Pairwise fun a b => leK (fun n : api_Node => n.Id_) a b = true := by
 have hle := leN_le x out
 unfold insA
 have hget := List.pairwise_iff_getElem.1 h
 rw [List.append_assoc]
 refine List.pairwise_append.2 ⟨h.sublist (List.take_sublist _ _), List.pairwise_append.2 ⟨by simp, h.sublist (List.drop_sublist _ _), fun a ha b hb => ?_⟩, fun a ha b hb => ?_⟩
 ·rw [List.mem_singleton] at ha
  subst ha
  obtain ⟨j, hj, e⟩ := List.getElem_of_mem hb
  rw [List.length_drop] at hj
  rw [List.getElem_drop] at e
  have h1 := leN_at a (l := out) (by omega)
  unfold leK
  simp only [decide_eq_true_eq]
  rw [← e]
  rcases Nat.eq_zero_or_pos j with h0 | h0
  ·subst h0
   simp only [Nat.add_zero]
   omega
  ·have := hget (leN a out) (leN a out + j) (by omega) (by omega) (by omega)
   unfold leK at this
   simp only [decide_eq_true_eq] at this
   omega
 ·obtain ⟨i, hi, e⟩ := List.getElem_of_mem ha
  rw [List.length_take] at hi
  rw [List.getElem_take] at e
  have h1 := leN_lt x (l := out) (i := i) (by omega) (by omega)
  rcases List.mem_append.1 hb with hb | hb
  ·rw [List.mem_singleton] at hb
   subst hb
   unfold leK
   simp only [decide_eq_true_eq]
   rw [← e]
   exact h1
  ·obtain ⟨j, hj, e2⟩ := List.getElem_of_mem hb
   rw [List.length_drop] at hj
   rw [List.getElem_drop] at e2
   rw [← e, ← e2]
   exact hget i (leN x out + j) (by omega) (by omega) (by omega)
theorem sorted_step {out l : List api_Node} {i : Nat} (hi : i < l.length) (ho : out.length ≤ 1000000) : loopF (ref16_sorted_L1 (out, (i : Int)) l) BIG 0 = some ((leN l[i] out : Nat) : Int) := by
 have hle := leN_le l[i] out
 refine loop_traj (T := fun j => (j : Int)) (leN l[i] out) (lt_big (by omega)) (fun j hj => ?_) ?_
 ·have hj' : j < out.length := by omega
  unfold ref16_sorted_L1
  refine bind_eq (a := true) (cond_t (lt_t hj') (bind_eq (getI_lt hj') (bind_eq (getI_lt hi) ?_))) (cond_t rfl (by rw [w_succ (by omega)]))
  exact congrArg some (decide_eq_true (leN_lt l[i] hj' hj))
 ·unfold ref16_sorted_L1
  refine bind_eq (a := false) ?_ rfl
  by_cases h : leN l[i] out < out.length
  ·refine cond_t (lt_t h) (bind_eq (getI_lt h) (bind_eq (getI_lt hi) ?_))
   exact congrArg some (decide_eq_false (leN_at l[i] h))
  ·have : leN l[i] out = out.length := by omega
   rw [this]
   exact cond_f (lt_f _) rfl
theorem ref_sorted_eq {l : List api_Node} (hl : l.length ≤ 100000) : ∃ y, ref16_sorted l = some y ∧ y.Perm l ∧ y.Pairwise fun a b => leK (fun n : api_Node => n.Id_) a b = true := by
 have h := loop_foldN (body := ref16_sorted_L2 l) l (fun out _ x => insA out x) (fun i s => (s, (i : Int))) (fun i s => s.length = i) (fun s => s) [] (lt_big (by omega)) rfl (fun i s hi hs => ?_) (fun s hs => ?_)
 ·refine ⟨_, bind_eq h rfl, ?_⟩
  have hp : ∀ (xs acc : List api_Node) (k : Nat), (acc.Pairwise fun a b => leK (fun n : api_Node => n.Id_) a b = true) → (foldN (fun out _ x => insA out x) acc k xs).Perm (xs ++ acc) ∧ (foldN (fun out _ x => insA out x) acc k xs).Pairwise fun a b => leK (fun n : api_Node => n.Id_) a b = true := fun xs => by
   induction xs with
   | nil => exact fun acc k ha => ⟨List.Perm.refl _, ha⟩
   | cons x xs ih =>
    intro acc k ha
    obtain ⟨i1, i2⟩ := ih (insA acc x) (k + 1) (insA_sorted x ha)
    refine ⟨i1.trans ?_, i2⟩
    refine ((insA_perm acc x).append_left xs).trans ?_
    exact List.perm_middle
  obtain ⟨p1, p2⟩ := hp l [] 0 List.Pairwise.nil
  rw [List.append_nil] at p1
  exact ⟨p1, p2⟩
 ·have hle := leN_le l[i] s
  refine ⟨?_, by rw [insA_len, hs]⟩
  unfold ref16_sorted_L2
  refine cond_t (lt_t hi) (bind_eq (sorted_step (out := s) hi (by omega)) (bind_eq (a := s.take (leN l[i] s)) ?_ (bind_eq (a := s.take (leN l[i] s)) ?_ (bind_eq (getI_lt hi) (bind_eq (a := s.take (leN l[i] s) ++ [l[i]]) ?_ (bind_eq (a := s.drop (leN l[i] s)) ?_ (bind_eq (a := insA s l[i]) ?_ (by rw [w_succ (by omega)]))))))))
  ·show subI s 0 ((leN l[i] s : Nat) : Int) = _
   rw [subI_eq (by omega) (by omega) (by omega), Int.toNat_natCast]
   rfl
  ·rw [room_eq (by simp; omega) (by simp; omega)]
   rfl
  ·rw [room_eq (by simp; omega) (by simp; omega)]
  ·show subI s ((leN l[i] s : Nat) : Int) (s.length : Int) = _
   rw [subI_eq (by omega) (by omega) (by omega), Int.toNat_natCast, Int.toNat_natCast, List.take_length]
  ·rw [room_eq (by simp; omega) (by simp; omega)]
   rfl
 ·unfold ref16_sorted_L2
  exact cond_f (lt_f _) rfl
theorem sorts_agree {l y z : List api_Node} (hy : sortBy (fun n : api_Node => n.Id_) l = some y) (hz : ref16_sorted l = some z) (hl : l.length ≤ 100000) (hn : (l.map (·.Id_)).Nodup) : y = z := by
 obtain ⟨p1, p2⟩ := sortBy_perm hy
 obtain ⟨z', h1, q1, q2⟩ := ref_sorted_eq hl
 rw [hz] at h1
 obtain rfl := Option.some.inj h1
 refine perm_sorted_eq (p1.trans q1.symm) p2 q2 fun a ha b hb h3 h4 => ?_
 refine key_inj hn a (p1.subset ha) b (p1.subset hb) ?_
 unfold leK at h3 h4
 simp only [decide_eq_true_eq] at h3 h4
 omega
end Go.Proofs.YtfdmakpcmkbhhaaGreatDoor
namespace Go.Proofs.YtfdmakpcmkbhhaaGreatDoor
open Go.Rt Go.RowKit
def headD (d : Str) : Option (Int × Int × api_Node × api_Root × Nat) := (nD d 4 0).bind fun q1 => (nD d 4 q1.2).bind fun q2 => (entD d q2.2).map fun q3 => (q1.1, q2.1, q3.1, q3.2.1, q3.2.2)
theorem P_head {d : Str} (hd : d.length ≤ 1024) : ∃ v1 d1 v2 d2 x d3, archive_decoder_number (archive_decoder.mk d 0 false) 4 = some (v1, d1) ∧ archive_decoder_number d1 4 = some (v2, d2) ∧ archive_decoder_entry d2 = some (x, d3) ∧ (match headD d with
  | none => d3.bad_ = true
  | some q => d3.bad_ = false ∧ d3.at_ = (q.2.2.2.2 : Int) ∧ v1 = q.1 ∧ v2 = q.2.1 ∧ x = archive_entry.mk q.2.2.1 q.2.2.2.1) := by
 have h0 : DS d (some 0) (archive_decoder.mk d 0 false) := ⟨rfl, rfl, 0, rfl, Nat.zero_le _, fun b hb => Option.some.inj hb⟩
 obtain ⟨v1, d1, a1, b1, c1⟩ := d_num (by omega) h0 (w := 4) (by omega) (by omega)
 obtain ⟨v2, d2, a2, b2, c2⟩ := d_num (by omega) b1 (w := 4) (by omega) (by omega)
 obtain ⟨x, d3, a3, b3, c3⟩ := d_entry (by omega) b2
 refine ⟨v1, d1, v2, d2, x, d3, a1, a2, a3, ?_⟩
 unfold headD
 cases p1 : nD d 4 0 with
 | none =>
  simp only [Option.bind_some, p1, Option.map_none, Option.bind_none] at b3
  exact b3.2.1
 | some q1 =>
  simp only [Option.bind_some, p1, Option.map_some] at b3 c2 c3 ⊢
  cases p2 : nD d 4 q1.2 with
  | none =>
   simp only [p2, Option.map_none, Option.bind_none] at b3
   exact b3.2.1
  | some q2 =>
   simp only [Option.bind_some, p2, Option.map_some] at b3 c3 ⊢
   cases p3 : entD d q2.2 with
   | none =>
    simp only [p3, Option.map_none] at b3
    exact b3.2.1
   | some q3 =>
    simp only [p3, Option.map_some] at b3 ⊢
    obtain ⟨_, e2, a, e3, _, e5⟩ := b3
    exact ⟨e2, by rw [e3, e5 _ rfl], c1 0 q1 rfl p1, c2 q1.2 q2 rfl p2, c3 q2.2 q3 rfl p3⟩
theorem R_head {d : Str} (hd : d.length ≤ 1024) : ∃ v1 d1 v2 d2 n r d3, ref16_scan_number (ref16_scan.mk d 0 false) 4 = some (v1, d1) ∧ ref16_scan_number d1 4 = some (v2, d2) ∧ ref16_scan_entry d2 = some (n, r, d3) ∧ (match headD d with
  | none => d3.Bad_ = true
  | some q => d3.Bad_ = false ∧ d3.At_ = (q.2.2.2.2 : Int) ∧ v1 = q.1 ∧ v2 = q.2.1 ∧ n = q.2.2.1 ∧ r = q.2.2.2.1) := by
 have h0 : RS d (some 0) (ref16_scan.mk d 0 false) := ⟨rfl, rfl, 0, rfl, Nat.zero_le _, fun b hb => Option.some.inj hb⟩
 obtain ⟨v1, d1, a1, b1, c1⟩ := r_num (by omega) h0 (w := 4) (by omega) (by omega)
 obtain ⟨v2, d2, a2, b2, c2⟩ := r_num (by omega) b1 (w := 4) (by omega) (by omega)
 obtain ⟨n, r, d3, a3, b3, c3⟩ := r_entry (by omega) b2
 refine ⟨v1, d1, v2, d2, n, r, d3, a1, a2, a3, ?_⟩
 unfold headD
 cases p1 : nD d 4 0 with
 | none =>
  simp only [Option.bind_some, p1, Option.map_none, Option.bind_none] at b3
  exact b3.2.1
 | some q1 =>
  simp only [Option.bind_some, p1, Option.map_some] at b3 c2 c3 ⊢
  cases p2 : nD d 4 q1.2 with
  | none =>
   simp only [p2, Option.map_none, Option.bind_none] at b3
   exact b3.2.1
  | some q2 =>
   simp only [Option.bind_some, p2, Option.map_some] at b3 c3 ⊢
   cases p3 : entD d q2.2 with
   | none =>
    simp only [p3, Option.map_none] at b3
    exact b3.2.1
   | some q3 =>
    simp only [p3, Option.map_some] at b3 ⊢
    obtain ⟨_, e2, a, e3, _, e5⟩ := b3
    obtain ⟨f1, f2⟩ := c3 q2.2 q3 rfl p3
    exact ⟨e2, by rw [e3, e5 _ rfl], c1 0 q1 rfl p1, c2 q1.2 q2 rfl p2, f1, f2⟩
theorem entsF_all (s : Str) : ∀ (f a : Nat) {l : List (api_Node × api_Root)}, a ≤ s.length → entsF s f a = some l → ∀ q ∈ l, q.1.Mode_ ≤ 9223372036854775807 ∧ q.1.Name_.length ≤ s.length
 | 0, a, l, _, h => by cases h
 | f + 1, a, l, ha, h => by
  unfold entsF at h
  split at h
  ·obtain ⟨q, hq, h⟩ := Option.bind_eq_some_iff.1 h
   obtain ⟨l', h1, rfl⟩ := Option.map_eq_some_iff.1 h
   obtain ⟨b1, b2, b3, b4⟩ := entD_le ha hq
   intro p hp
   rcases List.mem_cons.1 hp with rfl | hp
   ·exact ⟨b3, b4⟩
   ·exact entsF_all s f _ b1 h1 p hp
  ·obtain rfl := Option.some.inj h
   intro p hp
   cases hp
abbrev SmN (n : api_Node) : Prop := n.Mode_ ≤ 9223372036854775807 ∧ n.Name_.length ≤ 9223372036854775807
theorem getN_all {s : api_Store} (hs : StOK s) : ∀ (f : Nat) {n : api_Node} {r : api_Root} {left : Int}, SmN n → ∀ x ∈ (getN s f n r left).1, SmN x
 | 0, n, r, left, _, x, hx => by cases hx
 | f + 1, n, r, left, hn, x, hx => by
  obtain ⟨hb1, _⟩ := fileR_bound hs (kindN n) r
  unfold getN at hx
  split at hx
  ·cases hx
  ·split at hx
   ·split at hx
    ·split at hx
     ·cases hx
     ·rename_i l hk
      have hkl : ∀ q ∈ l, SmN q.1 := by
       unfold kidsF at hk
       obtain ⟨l', h1, h2⟩ := Option.bind_eq_some_iff.1 hk
       split at h2
       ·obtain rfl := Option.some.inj h2
        intro q hq
        have := entsF_all _ _ _ (Nat.zero_le _) h1 q hq
        exact ⟨this.1, by omega⟩
       ·cases h2
      have hi := runS_list (f := fG (getN s f) left) (fun _ acc => ∀ y ∈ acc.1, SmN y) (fun e => e.1 = []) (xs := l) (k := 0) (s0 := ([n], (fileR s (kindN n) r).2.1)) (fun y hy => by rw [List.mem_singleton] at hy; rw [hy]; exact hn) fun i acc q hq a1 => by
       unfold fG
       refine ⟨fun s' he => ?_, fun e he => ?_⟩
       ·split at he
        ·obtain rfl := Sum.inl.inj he
         intro y hy
         rcases List.mem_append.1 hy with hy | hy
         ·exact a1 y hy
         ·exact getN_all hs f (hkl q hq) y hy
        ·cases he
       ·split at he
        ·cases he
        ·obtain rfl := Sum.inr.inj he
         rfl
      cases hr : runS (fG (getN s f) left) ([n], (fileR s (kindN n) r).2.1) l with
      | inl acc =>
       rw [hr] at hx
       exact hi.1 acc hr x hx
      | inr e =>
       rw [hr] at hx
       have he := hi.2 e hr
       simp only [outS, he] at hx
       cases hx
    ·rw [List.mem_singleton] at hx
     rw [hx]
     exact hn
   ·cases hx
theorem entD_small {s : Str} {a : Nat} {q : api_Node × api_Root × Nat} (ha : a ≤ s.length) (hs : s.length ≤ 9223372036854775807) (h : entD s a = some q) : SmN q.1 := by
 have := entD_le ha h
 exact ⟨this.2.2.1, by omega⟩
theorem tree_both {s : api_Store} (hs : StOK s) (sc : Str) : ∃ T E rd, archive_reader_tree (archive_reader.mk s []) sc = some (T, E, rd) ∧ ref16_GetTree s sc = some (T, E) ∧ T.Nodes_.length ≤ 1024 ∧
  (E = 0 → ∃ next many n r a3, (blk s sc 4).2 = 0 ∧ headD (blk s sc 4).1 = some (next, many, n, r, a3) ∧ many ≤ 1024 ∧ (getN s 1025 n r many).2.2 = 0 ∧ rd = archive_reader.mk s ([sc] ++ (getN s 1025 n r many).2.1)) := by
 have hbl := blk_len hs sc 4
 have hrb := reader_block_eq hs sc 4 (seen := []) (by simp)
 have hrr := ref_block_eq hs sc (k := 4) (by omega)
 unfold archive_reader_tree ref16_GetTree
 by_cases h0 : (blk s sc 4).2 = 0
 ·rw [if_pos h0] at hrb
  obtain ⟨v1, d1, v2, d2, x, d3, p1, p2, p3, p4⟩ := P_head hbl
  obtain ⟨w1, e1, w2, e2, n, r, e3, q1, q2, q3, q4⟩ := R_head hbl
  have err : ∀ {X : Option (api_Tree × Int × archive_reader)} {Y : Option (api_Tree × Int)}, ((d3.bad_ || (d3.at_ != ((blk s sc 4).1.length : Int))) || decide (v2 < 1) || decide (v2 > 1024)) = true → ((e3.Bad_ || (e3.At_ != ((blk s sc 4).1.length : Int))) || decide (w2 < 1) || decide (w2 > 1024)) = true →
    ∃ T E rd, (bif ((d3.bad_ || (d3.at_ != ((blk s sc 4).1.length : Int))) || decide (v2 < 1) || decide (v2 > 1024)) then some (api_Tree.mk 0 [], 2, archive_reader.mk s ([] ++ [sc])) else X) = some (T, E, rd) ∧ (bif ((e3.Bad_ || (e3.At_ != ((blk s sc 4).1.length : Int))) || decide (w2 < 1) || decide (w2 > 1024)) then some (api_Tree.mk 0 [], (2 : Int)) else Y) = some (T, E) ∧ T.Nodes_.length ≤ 1024 ∧
     (E = 0 → ∃ next many n r a3, (blk s sc 4).2 = 0 ∧ headD (blk s sc 4).1 = some (next, many, n, r, a3) ∧ many ≤ 1024 ∧ (getN s 1025 n r many).2.2 = 0 ∧ rd = archive_reader.mk s ([sc] ++ (getN s 1025 n r many).2.1)) := fun ha hb =>
   ⟨api_Tree.mk 0 [], 2, archive_reader.mk s ([] ++ [sc]), cond_t ha rfl, cond_t hb rfl, by simp, fun e => by cases e⟩
  have pre : ∀ {A : Option (api_Tree × Int × archive_reader)} {B : Option (api_Tree × Int)} {A' : Option (api_Tree × Int × archive_reader)} {B' : Option (api_Tree × Int)} {P : api_Tree → Int → archive_reader → Prop}, A = A' → B = B' → (∃ T E rd, A' = some (T, E, rd) ∧ B' = some (T, E) ∧ P T E rd) → ∃ T E rd, A = some (T, E, rd) ∧ B = some (T, E) ∧ P T E rd := fun ha hb h => by rw [ha, hb]; exact h
  refine pre (bind_eq hrb (cond_f rfl (bind_eq p1 (bind_eq p2 (bind_eq p3 rfl))))) (bind_eq hrr (cond_f (by simp [h0]) (bind_eq q1 (bind_eq q2 (bind_eq q3 rfl))))) ?_
  cases hh : headD (blk s sc 4).1 with
  | none =>
   rw [hh] at p4 q4
   exact hh ▸ err (by simp [p4]) (by simp [q4])
  | some q =>
   obtain ⟨next, many, n', r', a3⟩ := q
   rw [hh] at p4 q4
   obtain ⟨p5, p6, rfl, rfl, rfl⟩ := p4
   obtain ⟨q5, q6, rfl, rfl, rfl, rfl⟩ := q4
   simp only at *
   by_cases hc : (a3 : Int) ≠ ((blk s sc 4).1.length : Int) ∨ w2 < 1 ∨ w2 > 1024
   ·refine pre (cond_t ?_ rfl) (cond_t ?_ rfl) ⟨api_Tree.mk 0 [], 2, _, rfl, rfl, by simp, fun e => by cases e⟩
    ·simp [p5, p6]
     omega
    ·simp [q5, q6]
     omega
   ·refine pre (cond_f ?_ rfl) (cond_f ?_ rfl) ?_
    ·simp [p5, p6]
     omega
    ·simp [q5, q6]
     omega
    ·have hsm : SmN n := by
      unfold headD at hh
      obtain ⟨z1, y1, hh⟩ := Option.bind_eq_some_iff.1 hh
      obtain ⟨z2, y2, hh⟩ := Option.bind_eq_some_iff.1 hh
      obtain ⟨z3, y3, hh⟩ := Option.map_eq_some_iff.1 hh
      simp only [Prod.mk.injEq] at hh
      rw [← hh.2.2.1]
      have b1 := nD_le (Nat.zero_le _) y1
      have b2 := nD_le b1.1 y2
      exact entD_small b2.1 (by omega) y3
     obtain ⟨e, b, rd, k1, k2, k3⟩ := add_P hs 1025 BIG (ns := []) (seen := [] ++ [sc]) (most := w2) (n := n) (r := r) (by decide) (by simp; omega) (by omega) (by simp)
     obtain ⟨p, g1, g2, g3⟩ := get_R hs 1025 BIG (n := n) (r := r) (left := w2) (by decide) (by omega) (by omega)
     have hz : w2 - (([] : List api_Node).length : Int) = w2 := by simp
     rw [hz] at k2 k3
     by_cases hg : (getN s 1025 n r w2).2.2 = 0
     ·obtain ⟨rfl, rfl⟩ := k3 (k2.trans hg)
      have g4 := g3 (g2.trans hg)
      obtain ⟨c1, c2, c3⟩ := getN_bound hs 1025 hg
      have hall := getN_all hs 1025 (r := r) (left := w2) hsm
      simp only [List.nil_append] at k1
      obtain ⟨y, hy⟩ : ∃ y, sortBy (fun n : api_Node => n.Id_) (getN s 1025 n r w2).1 = some y := ⟨_, by unfold sortBy; rw [if_pos (by omega)]⟩
      obtain ⟨z, hz1, hz2, hz3⟩ := ref_sorted_eq (l := (getN s 1025 n r w2).1) (by omega)
      obtain ⟨y1, y2⟩ := sortBy_perm hy
      have hyl := y1.length_eq
      have hzl := hz2.length_eq
      refine pre (bind_eq k1 (cond_f (by rw [k2, hg]; rfl) (bind_eq hy rfl))) (bind_eq g1 (cond_f (by rw [g2, hg]; rfl) (bind_eq (by rw [g4]; exact hz1) rfl))) ?_
      by_cases hlen : ((getN s 1025 n r w2).1.length : Int) = w2
      ·obtain ⟨b1, t1, t2⟩ := tree_right_iff (api_Tree.mk w1 y) (by show y.length ≤ 1024; omega) (fun x hx => hall x (y1.subset hx))
       obtain ⟨b2, t3, t4⟩ := ref10_right_iff (api_Tree.mk w1 z) (by show z.length ≤ 1024; omega) (fun x hx => hall x (hz2.subset hx))
       have hnd : ∀ {l : List api_Node} {nx : Int}, OkT l nx → (l.map (·.Id_)).Nodup := fun h => by
        rw [List.nodup_iff_pairwise_ne, List.pairwise_map]
        exact h.srt.imp fun h e => by omega
       have hyz : (b1 = true ∨ b2 = true) → y = z := fun h => by
        refine sorts_agree hy hz1 (by omega) ?_
        rcases h with h | h
        ·exact (y1.map _).nodup_iff.1 (hnd (t2.1 h))
        ·exact (hz2.map _).nodup_iff.1 (hnd (t4.1 h))
       have hbb : b1 = b2 := by
        cases hb1 : b1 with
        | true =>
         have := hyz (.inl hb1)
         subst this
         exact (t4.2 (t2.1 hb1)).symm
        | false =>
         cases hb2 : b2 with
         | false => rfl
         | true =>
          have := hyz (.inr hb2)
          subst this
          rw [t2.2 (t4.1 hb2)] at hb1
          cases hb1
       subst hbb
       refine pre (bind_eq (a := !b1) (cond_f (by simp; omega) (bind_eq t1 rfl)) rfl) (bind_eq (a := !b1) (cond_f (by rw [g4]; simp; omega) (bind_eq t3 rfl)) rfl) ?_
       cases hb : b1 with
       | false => exact ⟨api_Tree.mk 0 [], 2, _, rfl, rfl, by simp, fun e => by cases e⟩
       | true =>
        have := hyz (.inl hb)
        subst this
        exact ⟨api_Tree.mk w1 y, 0, _, rfl, rfl, by show y.length ≤ 1024; omega, fun _ => ⟨w1, w2, n, r, a3, h0, rfl, by omega, hg, rfl⟩⟩
      ·refine pre (bind_eq (a := true) (cond_t (by simp; omega) rfl) rfl) (bind_eq (a := true) (cond_t (by rw [g4]; simp; omega) rfl) rfl) ⟨api_Tree.mk 0 [], 2, _, rfl, rfl, by simp, fun e => by cases e⟩
     ·refine pre (bind_eq k1 (cond_t (by rw [k2]; simpa using hg) rfl)) (bind_eq g1 (cond_t (by rw [g2]; simpa using hg) rfl)) ⟨api_Tree.mk 0 [], (getN s 1025 n r w2).2.2, rd, by rw [k2], by rw [g2], by simp, fun e => absurd e hg⟩
 ·rw [if_neg h0] at hrb
  exact ⟨api_Tree.mk 0 [], (blk s sc 4).2, archive_reader.mk s [], bind_eq hrb (cond_t (by simp [h0]) rfl), bind_eq hrr (cond_t (by simp [h0]) rfl), by simp, fun e => absurd e h0⟩
end Go.Proofs.YtfdmakpcmkbhhaaGreatDoor
namespace Go.Proofs.YtfdmakpcmkbhhaaGreatDoor
open Go.Rt Go.RowKit Go.Sort
abbrev Asc (l : List Str) : Prop := l.Pairwise (· < ·)
theorem asc_uniq : ∀ {l m : List Str}, Asc l → Asc m → (∀ x, x ∈ l ↔ x ∈ m) → l = m
 | [], [], _, _, _ => rfl
 | [], y :: m, _, _, h => absurd ((h y).2 List.mem_cons_self) (by simp)
 | x :: l, [], _, _, h => absurd ((h x).1 List.mem_cons_self) (by simp)
 | x :: l, y :: m, h1, h2, h => by
  obtain ⟨a1, a2⟩ := List.pairwise_cons.1 h1
  obtain ⟨b1, b2⟩ := List.pairwise_cons.1 h2
  have hxy : x = y := by
   rcases List.mem_cons.1 ((h x).1 List.mem_cons_self) with e | e
   ·exact e
   ·rcases List.mem_cons.1 ((h y).2 List.mem_cons_self) with e' | e'
    ·exact e'.symm
    ·exact absurd (List.lt_trans (b1 x e) (a1 y e')) (List.lt_irrefl y)
  subst hxy
  rw [asc_uniq a2 b2 fun z => ?_]
  constructor
  ·intro hz
   rcases List.mem_cons.1 ((h z).1 (List.mem_cons_of_mem _ hz)) with e | e
   ·exact absurd (e ▸ a1 z hz) (List.lt_irrefl _)
   ·exact e
  ·intro hz
   rcases List.mem_cons.1 ((h z).2 (List.mem_cons_of_mem _ hz)) with e | e
   ·exact absurd (e ▸ b1 z hz) (List.lt_irrefl _)
   ·exact e
def insD (s : Str) : List Str → List Str
 | [] => [s]
 | y :: l => if y < s then y :: insD s l else if y = s then y :: l else s :: y :: l
def ltN (s : Str) : List Str → Nat
 | [] => 0
 | y :: l => if y < s then ltN s l + 1 else 0
theorem ltN_le (s : Str) : ∀ l, ltN s l ≤ l.length
 | [] => Nat.le_refl _
 | y :: l => by
  unfold ltN
  have := ltN_le s l
  split <;> simp <;> omega
theorem ltN_lt (s : Str) : ∀ {l : List Str} {i : Nat} (h : i < l.length), i < ltN s l → l[i] < s
 | y :: l, 0, _, hi => by
  unfold ltN at hi
  split at hi
  ·assumption
  ·omega
 | y :: l, i + 1, h, hi => by
  unfold ltN at hi
  split at hi
  ·exact ltN_lt s (l := l) (i := i) (by simpa using h) (by omega)
  ·omega
theorem ltN_at (s : Str) : ∀ {l : List Str} (h : ltN s l < l.length), ¬ l[ltN s l] < s
 | y :: l, h => by
  by_cases hy : y < s
  ·have e : ltN s (y :: l) = ltN s l + 1 := by simp [ltN, hy]
   simp only [e] at h ⊢
   exact ltN_at s (l := l) (by simpa using h)
  ·have e : ltN s (y :: l) = 0 := by simp [ltN, hy]
   simp only [e]
   exact hy
theorem insD_eq (s : Str) : ∀ (l : List Str), insD s l = if l[ltN s l]? = some s then l else l.take (ltN s l) ++ [s] ++ l.drop (ltN s l)
 | [] => by simp [insD, ltN]
 | y :: l => by
  unfold insD
  by_cases hy : y < s
  ·have e : ltN s (y :: l) = ltN s l + 1 := by simp [ltN, hy]
   rw [if_pos hy, e, insD_eq s l]
   simp only [List.getElem?_cons_succ, List.take_succ_cons, List.drop_succ_cons]
   split <;> simp
  ·have e : ltN s (y :: l) = 0 := by simp [ltN, hy]
   rw [if_neg hy, e]
   by_cases h2 : y = s
   ·simp [h2]
   ·simp [h2]
theorem insD_mem (s : Str) : ∀ (l : List Str) (x : Str), x ∈ insD s l ↔ x = s ∨ x ∈ l
 | [], x => by simp [insD]
 | y :: l, x => by
  unfold insD
  split
  ·rw [List.mem_cons, insD_mem s l x, List.mem_cons]
   constructor
   ·rintro (h | h | h)
    ·exact .inr (.inl h)
    ·exact .inl h
    ·exact .inr (.inr h)
   ·rintro (h | h | h)
    ·exact .inr (.inl h)
    ·exact .inl h
    ·exact .inr (.inr h)
  ·split
   ·rename_i h
    subst h
    simp
   ·simp
theorem str_tri (a b : Str) (h : ¬ a < b) (h2 : a ≠ b) : b < a := by
 rcases leS_total a b with h3 | h3
 ·unfold leS at h3
  simp only [decide_eq_true_eq] at h3
  rcases List.le_iff_lt_or_eq.1 h3 with h4 | h4
  ·exact absurd h4 h
  ·exact absurd h4 h2
 ·unfold leS at h3
  simp only [decide_eq_true_eq] at h3
  rcases List.le_iff_lt_or_eq.1 h3 with h4 | h4
  ·exact h4
  ·exact absurd h4.symm h2
theorem insD_asc (s : Str) : ∀ {l : List Str}, Asc l → Asc (insD s l)
 | [], _ => by simp [insD, Asc]
 | y :: l, h => by
  obtain ⟨a1, a2⟩ := List.pairwise_cons.1 h
  unfold insD
  split
  ·rename_i hy
   refine List.pairwise_cons.2 ⟨fun z hz => ?_, insD_asc s a2⟩
   rcases (insD_mem s l z).1 hz with rfl | hz
   ·exact hy
   ·exact a1 z hz
  ·rename_i hy
   split
   ·exact h
   ·rename_i h2
    have h3 := str_tri y s hy h2
    refine List.pairwise_cons.2 ⟨fun z hz => ?_, h⟩
    rcases List.mem_cons.1 hz with rfl | hz
    ·exact h3
    ·exact List.lt_trans h3 (a1 z hz)
theorem insD_len (s : Str) : ∀ (l : List Str), (insD s l).length ≤ l.length + 1
 | [] => by simp [insD]
 | y :: l => by
  have := insD_len s l
  unfold insD
  split
  ·simp; omega
  ·split <;> simp
theorem with_eq {l : List Str} (s : Str) (hl : l.length ≤ 1073741824) : ref16_with l s = some (insD s l) := by
 unfold ref16_with
 have hle := ltN_le s l
 refine bind_eq (a := ((ltN s l : Nat) : Int)) ?_ ?_
 ·refine loop_traj (T := fun i => (i : Int)) (ltN s l) (lt_big (by omega)) (fun i hi => ?_) ?_
  ·have hi' : i < l.length := by omega
   unfold ref16_with_L1
   refine bind_eq (a := true) (cond_t (lt_t hi') (bind_eq (getI_lt hi') ?_)) (cond_t rfl (by rw [w_succ (by omega)]))
   rw [bytesLess_eq]
   exact congrArg some (decide_eq_true (ltN_lt s hi' hi))
  ·unfold ref16_with_L1
   refine bind_eq (a := false) ?_ rfl
   by_cases h : ltN s l < l.length
   ·refine cond_t (lt_t h) (bind_eq (getI_lt h) ?_)
    rw [bytesLess_eq]
    exact congrArg some (decide_eq_false (ltN_at s h))
   ·have : ltN s l = l.length := by omega
    rw [this]
    exact cond_f (lt_f _) rfl
 ·rw [insD_eq]
  have hs0 : subI l 0 ((ltN s l : Nat) : Int) = some (l.take (ltN s l)) := by
   rw [subI_eq (by omega) (by omega) (by omega), Int.toNat_natCast]
   rfl
  have hs1 : subI l ((ltN s l : Nat) : Int) (l.length : Int) = some (l.drop (ltN s l)) := by
   rw [subI_eq (by omega) (by omega) (by omega), Int.toNat_natCast, Int.toNat_natCast, List.take_length]
  have hins : ((subI l 0 ((ltN s l : Nat) : Int)).bind fun y7 => (room 16 ([] : List Str) y7).bind fun y8 => (room 16 y8 [s]).bind fun y9 => (subI l ((ltN s l : Nat) : Int) (l.length : Int)).bind fun y10 => (room 16 y9 y10).bind fun y11 => some y11) = some (l.take (ltN s l) ++ [s] ++ l.drop (ltN s l)) := by
   refine bind_eq hs0 (bind_eq (a := l.take (ltN s l)) ?_ (bind_eq (a := l.take (ltN s l) ++ [s]) ?_ (bind_eq hs1 (bind_eq (a := l.take (ltN s l) ++ [s] ++ l.drop (ltN s l)) ?_ rfl))))
   ·rw [room_eq (by simp; omega) (by simp; omega)]
    rfl
   ·rw [room_eq (by simp; omega) (by simp; omega)]
   ·rw [room_eq (by simp; omega) (by simp; omega)]
  by_cases h : ltN s l < l.length
  ·rw [List.getElem?_eq_getElem h]
   by_cases he : l[ltN s l] = s
   ·rw [if_pos (by rw [he])]
    exact bind_eq (a := true) (cond_t (lt_t h) (bind_eq (getI_lt h) (by rw [he]; simp))) rfl
   ·rw [if_neg (fun e => he (Option.some.inj e))]
    exact bind_eq (a := false) (cond_t (lt_t h) (bind_eq (getI_lt h) (by simp [he]))) (cond_f rfl hins)
  ·have hl0 : ltN s l = l.length := by omega
   rw [List.getElem?_eq_none (by omega), if_neg (by simp)]
   refine bind_eq (a := false) (cond_f ?_ rfl) (cond_f rfl hins)
   rw [hl0]
   exact lt_f _
theorem compact_upTo {zs : List Str} (h : zs.Pairwise fun a b => leS a b = true) : ∀ m, m ≤ zs.length → Asc (Lib.compactUpTo zs.toArray m) ∧ (∀ x, x ∈ Lib.compactUpTo zs.toArray m ↔ x ∈ zs.take m)
 | 0, _ => ⟨by simp [Lib.compactUpTo, Asc], fun x => by simp [Lib.compactUpTo]⟩
 | m + 1, hm => by
  obtain ⟨i1, i2⟩ := compact_upTo h m (by omega)
  have hm' : m < zs.length := by omega
  have hsz : m < zs.toArray.size := by simpa using hm'
  have e1 : zs.toArray[m]! = zs[m] := by rw [getElem!_pos zs.toArray m hsz]; simp
  rw [Lib.compactUpTo_succ, e1, List.take_add_one, List.getElem?_eq_getElem hm']
  by_cases h0 : m = 0
  ·subst h0
   have hk : Lib.keeps zs.toArray 0 = true := by simp [Lib.keeps]
   rw [hk, if_pos rfl]
   refine ⟨by simp [Lib.compactUpTo, Asc], fun x => by simp [Lib.compactUpTo]⟩
  ·have hp : m - 1 < zs.length := by omega
   have hsz2 : m - 1 < zs.toArray.size := by simpa using hp
   have e2 : zs.toArray[m - 1]! = zs[m - 1] := by rw [getElem!_pos zs.toArray (m - 1) hsz2]; simp
   have hle : leS zs[m - 1] zs[m] = true := List.pairwise_iff_getElem.1 h (m - 1) m hp hm' (by omega)
   by_cases hk : zs[m] = zs[m - 1]
   ·rw [Lib.keeps_neg (by omega) (by rw [e1, e2, hk])]
    refine ⟨by simpa using i1, fun x => ?_⟩
    simp only [Bool.false_eq_true, if_false, List.append_nil, Option.toList_some, List.mem_append, List.mem_singleton]
    rw [i2 x]
    refine ⟨.inl, fun h' => ?_⟩
    rcases h' with h' | h'
    ·exact h'
    ·rw [h', hk]
     have hl : m - 1 < (zs.take m).length := by rw [List.length_take]; omega
     have := List.getElem_mem hl
     rwa [List.getElem_take] at this
   ·rw [Lib.keeps_pos (by rw [e1, e2]; exact hk), if_pos rfl]
    refine ⟨List.pairwise_append.2 ⟨i1, by simp, fun a ha b hb => ?_⟩, fun x => ?_⟩
    ·rw [List.mem_singleton] at hb
     subst hb
     have ha' := (i2 a).1 ha
     obtain ⟨j, hj, e⟩ := List.getElem_of_mem ha'
     rw [List.length_take] at hj
     rw [List.getElem_take] at e
     have h3 : leS a zs[m] = true := by
      rw [← e]
      exact List.pairwise_iff_getElem.1 h j m (by omega) hm' (by omega)
     have h4 : a ≠ zs[m] := fun e4 => by
      have h5 : leS a zs[m - 1] = true := by
       rw [← e]
       rcases Nat.lt_or_ge j (m - 1) with h6 | h6
       ·exact List.pairwise_iff_getElem.1 h j (m - 1) (by omega) hp h6
       ·have : j = m - 1 := by omega
        subst this
        unfold leS
        simp
      rw [e4] at h5
      exact hk (leS_anti _ _ h5 hle)
     unfold leS at h3
     simp only [decide_eq_true_eq] at h3
     rcases List.le_iff_lt_or_eq.1 h3 with h5 | h5
     ·exact h5
     ·exact absurd h5 h4
    ·simp only [Option.toList_some, List.mem_append, List.mem_singleton]
     rw [i2 x]
def canon (l : List Str) : List Str := Lib.compact (isort leS l)
theorem canon_asc (l : List Str) : Asc (canon l) := (compact_upTo (isort_sorted leS_trans leS_total l) _ (Nat.le_refl _)).1
theorem canon_mem (l : List Str) (x : Str) : x ∈ canon l ↔ x ∈ l := by
 unfold canon Lib.compact
 rw [(compact_upTo (isort_sorted leS_trans leS_total l) _ (Nat.le_refl _)).2 x, List.take_length]
 exact (isort_perm l).mem_iff
theorem canon_of {l m : List Str} (h1 : Asc m) (h : ∀ x, x ∈ m ↔ x ∈ l) : canon l = m := asc_uniq (canon_asc l) h1 fun x => by rw [canon_mem, h]
theorem sort_compact {l : List Str} (hl : l.length < 4611686018427387904) {R : Type} (k : List Str → Option R) : ((slices_SortS l).bind fun y => (slices_CompactS y).bind k) = k (canon l) := by
 have hlen : (isort leS l).length = l.length := (isort_perm l).length_eq
 refine bind_eq (a := isort leS l) (by rw [sortS_eq]; unfold sortC; rw [if_pos hl]) (bind_eq (a := canon l) ?_ rfl)
 unfold slices_CompactS
 rw [if_pos (by omega)]
 rfl
end Go.Proofs.YtfdmakpcmkbhhaaGreatDoor
namespace Go.Proofs.YtfdmakpcmkbhhaaGreatDoor
open Go.Rt Go.RowKit
def Grown (L0 : List Str) (a : List Str) (L : List Str) : Prop := Asc L ∧ (∀ x, x ∈ L ↔ x ∈ L0 ∨ x ∈ a) ∧ L.length ≤ L0.length + a.length
theorem scores_R {s : api_Store} (hs : StOK s) (k : Int) : ∀ (l m : Nat) {sc : Str} {len : Nat} {L : List Str}, l ≤ 2 → l < m → (l = 0 ∨ 1 ≤ len) → (rdF s k l sc len 0 len).2.2 = 0 → Asc L → L.length + cntN l ≤ 1073741824 →
  ∃ L', ref16_scores m s L sc (l : Int) = some L' ∧ Grown L (rdF s k l sc len 0 len).2.1 L'
 | 0, m, sc, len, L, _, hm, _, he, hL, hb => by
  obtain ⟨m, rfl⟩ : ∃ m', m = m' + 1 := ⟨m - 1, by omega⟩
  refine ⟨insD sc L, ?_, ?_⟩
  ·show ref16_scores_S (ref16_scores m) s L sc 0 = _
   unfold ref16_scores_S
   exact bind_eq (with_eq sc (by omega)) (cond_t rfl rfl)
  ·unfold rdF at he ⊢
   split at he
   ·rename_i h0
    rw [if_pos h0]
    split at he
    ·rename_i h1
     rw [if_pos h1]
     exact ⟨insD_asc sc hL, fun x => by rw [insD_mem]; simp; exact Or.comm, insD_len sc L⟩
    ·cases he
   ·rename_i h0
    exact absurd he h0
 | l + 1, m, sc, len, L, hl, hm, hlen, he, hL, hb => by
  obtain ⟨m, rfl⟩ : ∃ m', m = m' + 1 := ⟨m - 1, by omega⟩
  have hd := blk_len hs sc 2
  have hu1 := unitN_pos l
  have hcn : cntN (l + 1) = 1 + 32 * cntN l := rfl
  rw [rdF] at he ⊢
  split at he
  ·rename_i h0
   rw [if_pos h0]
   split at he
   ·rename_i h1
    rw [if_pos h1]
    have hcov : ∀ i, i < (len + unitN l - 1) / unitN l → i * unitN l < len := fun i hi => by
     have h3 : (i + 1) * unitN l ≤ len + unitN l - 1 := Nat.le_trans (Nat.mul_le_mul_right _ (by omega : i + 1 ≤ (len + unitN l - 1) / unitN l)) (Nat.div_mul_le_self _ _)
     rw [Nat.succ_mul] at h3
     omega
    have hN32 : (len + unitN l - 1) / unitN l ≤ 32 := by omega
    generalize (len + unitN l - 1) / unitN l = N at *
    have el : w64 (((l + 1 : Nat) : Int) - 1) = (l : Int) := by rw [w64_eq ⟨by omega, by omega⟩]; omega
    have hloop : ∀ (c i : Nat) (acc : Str × List Str) (M : List Str), i + c = N → Grown L acc.2 M → M.length + c * cntN l ≤ 1073741824 → (outS (fun a => (a.1, a.2, (0 : Int))) (fun r => r) (runS (fRd (rdF s k l) (blk s sc 2).1 (unitN l) len 0 len) acc (List.range' i c))).2.2 = 0 →
      ∃ L', loopF (ref16_scores_L1 (blk s sc 2) (ref16_scores m) s ((l + 1 : Nat) : Int)) (c + 1) (M, ((32 * i : Nat) : Int)) = some L' ∧ Grown L (outS (fun a => (a.1, a.2, (0 : Int))) (fun r => r) (runS (fRd (rdF s k l) (blk s sc 2).1 (unitN l) len 0 len) acc (List.range' i c))).2.1 L' := by
     intro c
     induction c with
     | zero =>
      intro i acc M hi hM _ _
      refine ⟨M, loopF_done ?_, by simpa [runS, outS] using hM⟩
      unfold ref16_scores_L1
      refine cond_f ?_ rfl
      simp only
      rw [w64_eq ⟨by omega, by omega⟩]
      simp only [decide_eq_false_iff_not]
      omega
     | succ c ih =>
      intro i acc M hi hM hMb he2
      have hi' : i < N := by omega
      have h3 := hcov i hi'
      have hmul : (c + 1) * cntN l = c * cntN l + cntN l := Nat.succ_mul _ _
      have hsz : 1 ≤ sizeN (unitN l) len i := by unfold sizeN; omega
      have hmin : min (len - i * unitN l) (sizeN (unitN l) len i) = sizeN (unitN l) len i := by unfold sizeN; omega
      simp only [List.range'_succ, runS] at he2 ⊢
      have hf : fRd (rdF s k l) (blk s sc 2).1 (unitN l) len 0 len acc i = if (rdF s k l (((blk s sc 2).1.drop (32 * i)).take 32) (sizeN (unitN l) len i) 0 (sizeN (unitN l) len i)).2.2 = 0 then .inl (acc.1 ++ (rdF s k l (((blk s sc 2).1.drop (32 * i)).take 32) (sizeN (unitN l) len i) 0 (sizeN (unitN l) len i)).1, acc.2 ++ (rdF s k l (((blk s sc 2).1.drop (32 * i)).take 32) (sizeN (unitN l) len i) 0 (sizeN (unitN l) len i)).2.1) else .inr ([], acc.2 ++ (rdF s k l (((blk s sc 2).1.drop (32 * i)).take 32) (sizeN (unitN l) len i) 0 (sizeN (unitN l) len i)).2.1, (rdF s k l (((blk s sc 2).1.drop (32 * i)).take 32) (sizeN (unitN l) len i) 0 (sizeN (unitN l) len i)).2.2) := by
       unfold fRd
       rw [hmin, Nat.zero_sub, Nat.zero_min, if_neg (by omega)]
      rw [hf] at he2 ⊢
      by_cases h4 : (rdF s k l (((blk s sc 2).1.drop (32 * i)).take 32) (sizeN (unitN l) len i) 0 (sizeN (unitN l) len i)).2.2 = 0
      ·rw [if_pos h4] at he2 ⊢
       simp only at he2 ⊢
       obtain ⟨M2, g1, g2, g3, g4⟩ := scores_R hs k l m (sc := ((blk s sc 2).1.drop (32 * i)).take 32) (len := sizeN (unitN l) len i) (L := M) (by omega) (by omega) (.inr hsz) h4 hM.1 (by omega)
       have hbnd := (rdF_bound hs k l (((blk s sc 2).1.drop (32 * i)).take 32) (sizeN (unitN l) len i) 0 (sizeN (unitN l) len i)).2
       obtain ⟨L', r1, r2⟩ := ih (i + 1) (acc.1 ++ (rdF s k l (((blk s sc 2).1.drop (32 * i)).take 32) (sizeN (unitN l) len i) 0 (sizeN (unitN l) len i)).1, acc.2 ++ (rdF s k l (((blk s sc 2).1.drop (32 * i)).take 32) (sizeN (unitN l) len i) 0 (sizeN (unitN l) len i)).2.1) M2 (by omega) ⟨g2, fun x => by rw [g3 x, hM.2.1 x, List.mem_append, or_assoc], by have := hM.2.2; simp only [List.length_append]; omega⟩ (by omega) he2
       refine ⟨L', loopF_step ?_ r1, r2⟩
       have es2 : w64 (((32 * i : Nat) : Int) + 32) = ((32 * (i + 1) : Nat) : Int) := by rw [w64_eq ⟨by omega, by omega⟩]; omega
       unfold ref16_scores_L1
       refine cond_t (by simp only [es2, decide_eq_true_eq]; omega) (bind_eq (a := ((blk s sc 2).1.drop (32 * i)).take 32) ?_ (bind_eq (by rw [el]; exact g1) (by simp only [es2])))
       simp only [es2]
       rw [subI_eq (by omega) (by omega) (by omega), Int.toNat_natCast, Int.toNat_natCast, List.drop_take]
       congr 2
       omega
      ·rw [if_neg h4] at he2
       exact absurd he2 h4
    have hw := with_eq (l := L) sc (by omega)
    rw [List.range_eq_range'] at he ⊢
    have hNc : N * cntN l ≤ 32 * cntN l := Nat.mul_le_mul_right _ hN32
    have hil := insD_len sc L
    obtain ⟨L', r1, r2⟩ := hloop N 0 ([], [sc]) (insD sc L) (by omega) ⟨insD_asc sc hL, fun x => by rw [insD_mem]; simp; exact Or.comm, hil⟩ (by omega) he
    refine ⟨L', ?_, r2⟩
    show ref16_scores_S (ref16_scores m) s L sc ((l + 1 : Nat) : Int) = _
    unfold ref16_scores_S
    exact bind_eq hw (cond_f (by simp; omega) (bind_eq (ref_block_eq hs sc (by omega)) (bind_eq (loopF_more r1 (Nat.le_of_lt (lt_big (by omega)))) rfl)))
   ·cases he
  ·rename_i h0
   exact absurd he h0
theorem file_scores {s : api_Store} (hs : StOK s) (k : Int) {r : api_Root} {L : List Str} (he : (fileR s k r).2.2 = 0) (hL : Asc L) (hb : L.length + 1057 ≤ 1073741824) : ∃ L', ref16_scores BIG s L r.Score_ r.Levels_ = some L' ∧ Grown L (fileR s k r).2.1 L' := by
 unfold fileR at he ⊢
 split at he
 ·rename_i hr
  rw [if_pos hr]
  obtain ⟨n, e1, e2, e3, e4⟩ := okRoot_iff hr
  rw [e1, Int.toNat_natCast] at he ⊢
  have h2 := hN_le (nP n)
  have hc := cntN_le h2
  rw [e3]
  refine scores_R hs k (hN (nP n)) BIG h2 (lt_big (by omega)) ?_ he hL (by omega)
  rcases Nat.eq_zero_or_pos n with h | h
  ·subst h
   exact .inl hN_zero
  ·exact .inr h
 ·cases he
end Go.Proofs.YtfdmakpcmkbhhaaGreatDoor
namespace Go.Proofs.YtfdmakpcmkbhhaaGreatDoor
open Go.Rt Go.RowKit
def BelowOK (s : api_Store) (f m : Nat) : Prop := ∀ (n : api_Node) (r : api_Root) (left : Int) (L : List Str), (getN s f n r left).2.2 = 0 → Asc L → (L.length : Int) + 1057 * left ≤ 1073741824 → ∃ L', ref16_below m s L n r = some L' ∧ Grown L (getN s f n r left).2.1 L'
theorem below_loop {s : api_Store} (hs : StOK s) {f m : Nat} (IH : BelowOK s f m) (S : Str) (hS : S.length ≤ 2000000) (e : Int) (left : Int) (L : List Str) : ∀ (f2 a : Nat) (ys : List (api_Node × api_Root)) (acc acc' : List api_Node × List Str) (M : List Str) (d : ref16_scan), entsF S f2 a = some ys → RS S (some a) d → a ≤ S.length → Grown L acc.2 M → (M.length : Int) + 1057 * (left - (acc.1.length : Int)) ≤ 1073741824 →
  runS (fG (getN s f) left) acc ys = .inl acc' → ∃ L', loopF (ref16_below_L1 (S, e) (ref16_below m) s) (ys.length + 1) (M, d) = some L' ∧ Grown L acc'.2 L'
 | 0, a, ys, acc, acc', M, d, h, _, _, _, _, _ => by cases h
 | f2 + 1, a, ys, acc, acc', M, d, hys, hd2, ha, hM, hMb, he2 => by
  obtain ⟨e1, e2, a', e3, _, e5⟩ := id hd2
  obtain rfl := e5 a rfl
  unfold entsF at hys
  split at hys
  ·rename_i hlt
   obtain ⟨q, hq, hys⟩ := Option.bind_eq_some_iff.1 hys
   obtain ⟨l', h1, rfl⟩ := Option.map_eq_some_iff.1 hys
   obtain ⟨b1, b2, _⟩ := entD_le ha hq
   obtain ⟨n2, r2, d', g1, g2, g3⟩ := r_entry hS hd2
   simp only [Option.bind_some, hq, Option.map_some] at g2
   obtain ⟨rfl, rfl⟩ := g3 a' q rfl hq
   simp only [runS] at he2
   unfold fG at he2
   by_cases h4 : (getN s f q.1 q.2.1 (left - (acc.1.length : Int))).2.2 = 0
   ·rw [if_pos h4] at he2
    simp only at he2
    obtain ⟨c1, c2, c3⟩ := getN_bound hs f h4
    obtain ⟨M2, k1, k2, k3, k4⟩ := IH q.1 q.2.1 (left - (acc.1.length : Int)) M h4 hM.1 hMb
    generalize getN s f q.1 q.2.1 (left - (acc.1.length : Int)) = G at *
    obtain ⟨L', r1, r2⟩ := below_loop hs IH S hS e left L f2 q.2.2 l' (acc.1 ++ G.1, acc.2 ++ G.2.1) acc' M2 d' h1 g2 b1 ⟨k2, fun x => by rw [k3 x, hM.2.1 x, List.mem_append, or_assoc], by have := hM.2.2; simp only [List.length_append]; omega⟩ (by simp only [List.length_append]; omega) he2
    refine ⟨L', loopF_step ?_ r1, r2⟩
    unfold ref16_below_L1
    exact cond_t (by simp only [e2, e3]; simp; omega) (bind_eq g1 (bind_eq k1 rfl))
   ·rw [if_neg h4] at he2
    cases he2
  ·rename_i hlt
   obtain rfl := Option.some.inj hys
   simp only [runS, Sum.inl.injEq] at he2
   subst he2
   refine ⟨M, loopF_done ?_, hM⟩
   unfold ref16_below_L1
   exact cond_f (by simp only [e3]; simp; omega) rfl
theorem below_zero (s : api_Store) (m : Nat) : BelowOK s 0 m := fun _ _ _ _ h => by cases h
theorem below_succ {s : api_Store} (hs : StOK s) {f m : Nat} (IH : BelowOK s f m) : BelowOK s (f + 1) (m + 1) := by
 intro n r left L he hL hb
 show ∃ L', ref16_below_S (ref16_below m) s L n r = some L' ∧ _
 obtain ⟨hb1, hb2⟩ := fileR_bound hs (kindN n) r
 rw [getN] at he ⊢
 by_cases hl : left < 1
 ·rw [if_pos hl] at he
  cases he
 rw [if_neg hl] at he ⊢
 by_cases hc : (fileR s (kindN n) r).2.2 = 0
 ·rw [if_pos hc] at he ⊢
  obtain ⟨M, s1, s2⟩ := file_scores hs (kindN n) hc hL (by omega)
  by_cases hd : n.Mode_ ≥ 2147483648
  ·rw [if_pos hd] at he ⊢
   have hk3 : kindN n = 3 := if_pos hd
   have hdir : ref10_IsDir n.Mode_ = some true := by unfold ref10_IsDir; simp [hd]
   have hcon := ref_contents_eq hs (k := 3) (by omega) r
   rw [hk3] at he hb1 hb2 s2 ⊢
   generalize fileR s 3 r = C at *
   cases hk : kidsF C.1 n.Id_ (C.1.length + 1) 0 with
   | none => rw [hk] at he; cases he
   | some l =>
    rw [hk] at he
    simp only at he ⊢
    have hen : entsF C.1 (C.1.length + 1) 0 = some l := by
     unfold kidsF at hk
     obtain ⟨l', h1, h2⟩ := Option.bind_eq_some_iff.1 hk
     split at h2
     ·obtain rfl := Option.some.inj h2
      exact h1
     ·cases h2
    have hll := entsF_len _ _ _ hen
    cases hr : runS (fG (getN s f) left) ([n], C.2.1) l with
    | inr e => 
     have hne := runS_list (f := fG (getN s f) left) (fun _ _ => True) (fun e => e.2.2 ≠ 0) (xs := l) (k := 0) (s0 := ([n], C.2.1)) trivial fun i acc q _ _ => ⟨fun _ _ => trivial, fun e he => by
      unfold fG at he
      split at he
      ·cases he
      ·rename_i h0
       obtain rfl := Sum.inr.inj he
       exact h0⟩
     rw [hr] at he
     exact absurd he (hne.2 e hr)
    | inl a =>
     obtain ⟨L', r1, r2⟩ := below_loop hs IH C.1 (by omega) C.2.2 left L (C.1.length + 1) 0 l ([n], C.2.1) a M (ref16_scan.mk C.1 0 false) hen ⟨rfl, rfl, 0, rfl, Nat.zero_le _, fun b hb => Option.some.inj hb⟩ (Nat.zero_le _) s2 (by have := s2.2.2; simp only [List.length_singleton]; omega) hr
     refine ⟨L', ?_, r2⟩
     unfold ref16_below_S
     exact bind_eq s1 (bind_eq hdir (cond_f rfl (bind_eq hcon (bind_eq (loopF_more r1 (Nat.le_of_lt (lt_big (by omega)))) rfl))))
  ·rw [if_neg hd] at he ⊢
   have hdir : ref10_IsDir n.Mode_ = some false := by unfold ref10_IsDir; simp [hd]
   refine ⟨M, ?_, s2⟩
   unfold ref16_below_S
   exact bind_eq s1 (bind_eq hdir (cond_t rfl rfl))
 ·rw [if_neg hc] at he
  exact absurd he hc
theorem below_R {s : api_Store} (hs : StOK s) : ∀ (f m : Nat), f ≤ m → BelowOK s f m
 | 0, m, _ => below_zero s m
 | f + 1, 0, h => by omega
 | f + 1, m + 1, h => below_succ hs (below_R hs f m (by omega))
end Go.Proofs.YtfdmakpcmkbhhaaGreatDoor
namespace Go.Proofs.YtfdmakpcmkbhhaaGreatDoor
open Go.Rt Go.RowKit
theorem Reach_both {s : api_Store} (hs : StOK s) (sc : Str) : ∃ L E, archive_Reach s sc = some (L, E) ∧ ref16_Reach s sc = some (L, E) ∧ L.length ≤ 1073741824 := by
 obtain ⟨T, E, rd, t1, t2, t3, t4⟩ := tree_both hs sc
 unfold archive_Reach ref16_Reach
 by_cases hE : E = 0
 ·obtain ⟨next, many, n, r, a3, h0, hh, hm, hg, rfl⟩ := t4 hE
  have hbl := blk_len hs sc 4
  unfold headD at hh
  obtain ⟨q1, y1, hh⟩ := Option.bind_eq_some_iff.1 hh
  obtain ⟨q2, y2, hh⟩ := Option.bind_eq_some_iff.1 hh
  obtain ⟨q3, y3, hh⟩ := Option.map_eq_some_iff.1 hh
  simp only [Prod.mk.injEq] at hh
  obtain ⟨_, _, hn, hr, _⟩ := hh
  have b1 := nD_le (Nat.zero_le _) y1
  have b2 := nD_le b1.1 y2
  have e8 : q2.2 = 8 := by omega
  rw [e8] at y3
  obtain ⟨n', r', d', g1, _, g3⟩ := r_entry (s := (blk s sc 4).1) (by omega) (o := some 8) (d := ref16_scan.mk (blk s sc 4).1 8 false) ⟨rfl, rfl, 8, rfl, by omega, fun b hb => Option.some.inj hb⟩
  obtain ⟨f1, f2⟩ := g3 8 q3 rfl y3
  rw [hn] at f1
  rw [hr] at f2
  subst f1
  subst f2
  obtain ⟨L', k1, k2, k3, k4⟩ := below_R hs 1025 BIG (by decide) n' r' many [sc] hg (by simp [Asc]) (by simp; omega)
  obtain ⟨c1, c2, c3⟩ := getN_bound hs 1025 hg
  have hcan : canon ([sc] ++ (getN s 1025 n' r' many).2.1) = L' := canon_of k2 fun x => by rw [k3 x, List.mem_append]
  refine ⟨L', 0, bind_eq t1 (cond_f (by simp [hE]) ?_), bind_eq t2 (cond_f (by simp [hE]) (bind_eq (ref_block_eq hs sc (by omega)) (bind_eq g1 (bind_eq k1 rfl)))), by simp at k4; omega⟩
  have := sort_compact (l := [sc] ++ (getN s 1025 n' r' many).2.1) (by simp; omega) (fun y3 => some (y3, (0 : Int)))
  rw [hcan] at this
  exact this
 ·exact ⟨[], E, bind_eq t1 (cond_t (by simpa using hE) rfl), bind_eq t2 (cond_t (by simpa using hE) rfl), by simp⟩
theorem same_tree {t : api_Tree} (hl : t.Nodes_.length ≤ 1073741824) : ref10_Same t t = some true := by
 unfold ref10_Same
 refine cond_f (by simp) ?_
 have h := loop_scan (body := ref10_Same_L1 t t) t.Nodes_ (fun (_ : Nat) (_ : api_Node) => (none : Option Bool)) (lt_big (by omega)) (fun i hi => ?_) ?_
 ·rw [scan_ret h (fun r => rfl) (x := true) rfl]
  have : scan (fun (_ : Nat) (_ : api_Node) => (none : Option Bool)) 0 t.Nodes_ = none := scan_none.2 fun _ _ _ => rfl
  rw [this]
  rfl
 ·unfold ref10_Same_L1
  refine cond_t (lt_t hi) (bind_eq (getI_lt hi) (bind_eq (getI_lt hi) (cond_f (by simp) ?_)))
  rw [w_succ (by omega)]
  rfl
 ·unfold ref10_Same_L1
  exact cond_f (lt_f _) rfl
theorem archiveGets_plain (x0 : api_Store) (x1 : Str) (_ : Fit te (.st 1) x0) (_ : Fit te .str x1) : law16_ArchiveGets x0 x1 = some true := by
 unfold law16_ArchiveGets
 have hA : (law16_awake.bind fun y4 => some y4) = some true := by rw [awake_eq]; rfl
 by_cases hd : x1.length ≤ 100
 ·refine ask_store (by simp; omega) hA fun hl hs => ?_
  obtain ⟨T, E, rd, t1, t2, t3, _⟩ := tree_both hs x1
  obtain ⟨L, F, r1, r2, r3⟩ := Reach_both hs x1
  have g1 : archive_GetTree x0 x1 = some (T, E) := by unfold archive_GetTree; exact bind_eq t1 rfl
  refine bind_eq g1 (bind_eq t2 (bind_eq r1 (bind_eq r2 (cond_f (by simp) ?_))))
  have hlp := loop_traj (body := law16_ArchiveGets_L1 (L, F) (L, F)) (T := fun i => ((i : Int), L)) (b := Out.fall ()) L.length (lt_big (by omega)) (fun i hi => ?_) ?_
  ·exact bind_eq hlp (bind_eq (same_tree (t := T) (by omega)) (bind_eq (a := true) (cond_t (by simp) hA) rfl))
  ·unfold law16_ArchiveGets_L1
   refine cond_t (lt_t hi) (bind_eq (getI_lt hi) (bind_eq (getI_lt hi) (cond_f (by simp) ?_)))
   rw [w_succ (by omega)]
  ·unfold law16_ArchiveGets_L1
   exact cond_f (lt_f _) rfl
 ·obtain ⟨b, h1, _⟩ := light_eq x0
  refine bind_eq h1 (bind_eq (a := true) (cond_t (by simp; omega) rfl) (cond_t rfl hA))
end Go.Proofs.YtfdmakpcmkbhhaaGreatDoor
namespace Go.Proofs.YtfdmakpcmkbhhaaGreatDoor
open Go.Rt Go.RowKit
theorem putB_again {s u : api_Store} {k : Int} {d : Str} (hs : StOK s) (hk : 1 ≤ k ∧ k ≤ 4) (he : (putB s k d).2.2 = 0) (hu : StLe (putB s k d).1 u) : putB u k d = (u, (putB s k d).2.1, 0) := by
 obtain ⟨_, _, h3⟩ := putB_ok (d := d) hs hk
 obtain ⟨h4, h5, h6⟩ := h3 he
 have h7 := hu.find h6
 rw [h4]
 unfold putB
 rw [if_neg (by omega), h7]
 simp
theorem putL_again {k : Int} (hk : 1 ≤ k ∧ k ≤ 4) : ∀ {ps : List Str} {s u : api_Store}, StOK s → (putL k s ps).2.2 = 0 → StLe (putL k s ps).1 u → putL k u ps = (u, (putL k s ps).2.1, 0)
 | [], s, u, _, _, _ => rfl
 | p :: ps, s, u, hs, he, hu => by
  obtain ⟨h1, _, _⟩ := putB_ok (d := p) hs hk
  obtain ⟨_, i2, _⟩ := putL_ok hk (ps := ps) h1
  unfold putL at he hu ⊢
  by_cases h0 : (putB s k p).2.2 = 0
  ·rw [if_pos h0] at he hu
   simp only at he hu
   have hb := putB_again hs hk h0 (i2.trans hu)
   have hl := putL_again hk (ps := ps) h1 he hu
   rw [hb]
   simp only [if_true]
   rw [hl, if_pos h0]
  ·rw [if_neg h0] at he
   exact absurd he h0
theorem upF_again : ∀ (f : Nat) {k : Int} {s u : api_Store} {ps : List Str}, 1 ≤ k ∧ k ≤ 4 → StOK s → (upF f k s ps).err = 0 → StLe (upF f k s ps).store u → upF f k u ps = ⟨u, (upF f k s ps).score, (upF f k s ps).levels, 0⟩
 | 0, k, s, u, ps, _, _, he, _ => by simp [upF] at he
 | f + 1, k, s, u, ps, hk, hs, he, hu => by
  obtain ⟨h1, _, _⟩ := putL_ok hk (ps := ps) hs
  unfold upF at he hu ⊢
  by_cases h0 : (putL k s ps).2.2 = 0
  ·rw [if_pos h0] at he hu
   by_cases hp : ps.length = 1
   ·rw [if_pos hp] at he hu
    have hl := putL_again hk hs h0 hu
    rw [hl]
    simp only [if_true, if_pos h0, if_pos hp]
   ·rw [if_neg hp] at he hu
    simp only at he hu
    obtain ⟨_, h4⟩ := upF_ok f (k := 2) (ps := pieces (putL k s ps).2.1.flatten) (by omega) h1
    have hl := putL_again hk hs h0 (h4.trans hu)
    have hn := upF_again f (k := 2) (by omega) h1 he hu
    rw [hl]
    simp only [if_true, if_pos h0, if_neg hp]
    rw [hn]
  ·rw [if_neg h0] at he
   exact absurd he h0
theorem finP_again {s u : api_Store} {k : Int} {d : Str} (hk : 1 ≤ k ∧ k ≤ 4) (hs : StOK s) (he : (finP s k d).2.2 = 0) (hu : StLe (finP s k d).1 u) : finP u k d = (u, (finP s k d).2.1, 0) := by
 unfold finP at he hu ⊢
 by_cases h0 : (putS s k d).err = 0
 ·rw [if_pos h0] at hu ⊢
  have h := upF_again 3 hk hs h0 hu
  have h' : putS u k d = ⟨u, (putS s k d).score, (putS s k d).levels, 0⟩ := h
  rw [h']
  rfl
 ·rw [if_neg h0] at he
  exact absurd he h0
def AgainOK (l : List api_Node) (f : Nat) : Prop := ∀ (s u : api_Store) (n : api_Node), n ∈ l → StOK s → (putN l f s n).2.2 = 0 → StLe (putN l f s n).1 u → putN l f u n = (u, (putN l f s n).2.1, 0)
theorem kids_mono {l : List api_Node} {next : Int} (h : OkT l next) (f : Nat) {id : Int} : ∀ {ks : List Int} {a b : Str × api_Store}, (∀ k ∈ ks, k ∈ childT l id) → StOK a.2 → runS (fPN l (putN l f)) a ks = .inl b → StOK b.2 ∧ StLe a.2 b.2
 | [], a, b, _, hs, hr => by
  simp only [runS, Sum.inl.injEq] at hr
  subst hr
  exact ⟨hs, StLe.refl _⟩
 | k :: ks, a, b, hk, hs, hr => by
  obtain ⟨c, hc, _, _, _, hnode, _⟩ := child_of h (hk k List.mem_cons_self)
  obtain ⟨b1, b2, _⟩ := putN_ok h f (s := a.2) hc hs
  simp only [runS] at hr
  unfold fPN at hr
  rw [hnode] at hr
  simp only at hr
  by_cases h0 : (putN l f a.2 c).2.2 = 0
  ·rw [if_pos h0] at hr
   obtain ⟨c1, c2⟩ := kids_mono h f (ks := ks) (fun k hk' => hk k (List.mem_cons_of_mem _ hk')) (by exact b1) hr
   exact ⟨c1, b2.trans c2⟩
  ·rw [if_neg h0] at hr
   cases hr
theorem kids_again {l : List api_Node} {next : Int} (h : OkT l next) {f : Nat} (IH : AgainOK l f) {id : Int} : ∀ {ks : List Int} {a b : Str × api_Store} {u : api_Store}, (∀ k ∈ ks, k ∈ childT l id) → StOK a.2 → runS (fPN l (putN l f)) a ks = .inl b → StLe b.2 u → runS (fPN l (putN l f)) (a.1, u) ks = .inl (b.1, u)
 | [], a, b, u, _, hs, hr, hu => by
  simp only [runS, Sum.inl.injEq] at hr ⊢
  rw [hr]
 | k :: ks, a, b, u, hk, hs, hr, hu => by
  obtain ⟨c, hc, _, _, _, hnode, _⟩ := child_of h (hk k List.mem_cons_self)
  obtain ⟨b1, b2, _⟩ := putN_ok h f (s := a.2) hc hs
  simp only [runS] at hr ⊢
  have hks : ∀ k ∈ ks, k ∈ childT l id := fun k hk' => hk k (List.mem_cons_of_mem _ hk')
  have e : ∀ a : Str × api_Store, fPN l (putN l f) a k = if (putN l f a.2 c).2.2 = 0 then .inl (a.1 ++ encE c (putN l f a.2 c).2.1, (putN l f a.2 c).1) else .inr (putN l f a.2 c).2.2 := fun a => by
   unfold fPN
   rw [hnode]
  rw [e] at hr ⊢
  by_cases h0 : (putN l f a.2 c).2.2 = 0
  ·rw [if_pos h0] at hr
   simp only at hr
   obtain ⟨_, c2⟩ := kids_mono h f hks (by exact b1) hr
   have hh := IH a.2 u c hc hs h0 (c2.trans hu)
   simp only [hh]
   exact kids_again h IH hks (by exact b1) hr hu
  ·rw [if_neg h0] at hr
   cases hr
theorem fPN_err {l : List api_Node} {f : Nat} : ∀ {ks : List Int} {a : Str × api_Store} {e : Int}, runS (fPN l (putN l f)) a ks = .inr e → e ≠ 0
 | [], a, e, h => by cases h
 | k :: ks, a, e, h => by
  simp only [runS] at h
  unfold fPN at h
  by_cases h0 : (putN l f a.2 (nodeT l k).1).2.2 = 0
  ·rw [if_pos h0] at h
   exact fPN_err (ks := ks) h
  ·rw [if_neg h0] at h
   simp only [Sum.inr.injEq] at h
   rw [← h]
   exact h0
theorem again_succ {l : List api_Node} {next : Int} (h : OkT l next) {f : Nat} (IH : AgainOK l f) : AgainOK l (f + 1) := by
 intro s u n hn hs he hu
 unfold putN at he hu ⊢
 by_cases hd : hasI n.Mode_ 31 = true
 ·rw [if_pos hd] at he hu ⊢
  cases hq : runS (fPN l (putN l f)) ([], s) (childT l n.Id_) with
  | inr e =>
   rw [hq] at he
   exact absurd he (fPN_err hq)
  | inl a =>
   rw [hq] at he hu
   simp only [outS] at he hu
   obtain ⟨m1, m2⟩ := kids_mono h f (fun k hk => hk) (by exact hs) hq
   obtain ⟨_, _, hok⟩ := putN_ok h (f + 1) (s := s) hn hs
   have hlen : a.1.length ≤ 1048576 ∨ ¬ a.1.length ≤ 1048576 := Decidable.em _
   have hle : StLe a.2 (finP a.2 3 a.1).1 := by
    unfold finP
    split
    ·exact (upF_ok 3 (by omega) m1).2
    ·exact StLe.refl _
   have hk := kids_again h IH (u := u) (fun k hk => hk) (by exact hs) hq (hle.trans hu)
   rw [hk]
   simp only [outS, if_pos hd, hq]
   exact finP_again (by omega) m1 he hu
 ·rw [if_neg hd] at he hu ⊢
  rw [if_neg hd]
  exact finP_again (by omega) hs he hu
theorem putN_again {l : List api_Node} {next : Int} (h : OkT l next) : ∀ f, AgainOK l f
 | 0 => fun s u n _ _ he _ => by cases he
 | f + 1 => again_succ h (putN_again h f)
theorem treeS_again {s u : api_Store} {t : api_Tree} (hs : StOK s) (h : OkT t.Nodes_ t.Next_) (he : (treeS s t).2.2 = 0) (hu : StLe (treeS s t).1 u) : treeS u t = (u, (treeS s t).2.1, 0) := by
 obtain ⟨r1, _⟩ := root_of h
 obtain ⟨b1, b2, b3⟩ := putN_ok h BIG (s := s) r1 hs
 have ha := putN_again h BIG s u (rootN t.Nodes_) r1 hs
 rw [putT_eq] at b1 b2 b3
 rw [putT_eq, putT_eq] at ha
 unfold treeS at he hu ⊢
 by_cases h0 : (putT t.Nodes_ s).2.2 = 0
 ·rw [if_pos h0] at he hu
  by_cases h1 : (putB (putT t.Nodes_ s).1 4 (headT t (rootN t.Nodes_) (putT t.Nodes_ s).2.1)).2.2 = 0
  ·rw [if_pos h1] at he hu
   obtain ⟨_, c2, _⟩ := putB_ok (s := (putT t.Nodes_ s).1) (k := 4) (d := headT t (rootN t.Nodes_) (putT t.Nodes_ s).2.1) b1 (by omega)
   have h2 := ha h0 (c2.trans hu)
   have h3 := putB_again b1 (by omega) h1 hu
   rw [h2]
   simp only [if_true, if_pos h0, if_pos h1]
   rw [h3]
   simp only [if_true]
  ·rw [if_neg h1] at he
   exact absurd he h1
 ·rw [if_neg h0] at he
  exact absurd he h0
end Go.Proofs.YtfdmakpcmkbhhaaGreatDoor
namespace Go.Proofs.YtfdmakpcmkbhhaaGreatDoor
open Go.Rt Go.RowKit
theorem win_on {s p q : Str} {a w : Nat} (h : s.drop a = p ++ q) (hw : p.length = w) : win s a w = p ∧ s.drop (a + w) = q ∧ s.length - a = w + q.length := by
 subst hw
 refine ⟨?_, ?_, ?_⟩
 ·unfold win
  rw [h, List.take_left']
  rfl
 ·rw [← List.drop_drop, h, List.drop_left']
  rfl
 ·have := congrArg List.length h
  rw [List.length_drop, List.length_append] at this
  exact this
theorem nD_on {s q : Str} {a w : Nat} {n : Int} (h : s.drop a = leB n w ++ q) (h0 : 0 ≤ n) (h1 : n ≤ 9223372036854775807) (h2 : n.toNat < 2 ^ (8 * w)) : nD s w a = some (n, a + w) ∧ s.drop (a + w) = q := by
 obtain ⟨e1, e2, e3⟩ := win_on h (leB_len _ _)
 obtain ⟨m, rfl⟩ : ∃ m : Nat, n = (m : Int) := ⟨n.toNat, by omega⟩
 rw [Int.toNat_natCast] at h2
 have hv := leV_leL w m h2
 refine ⟨?_, e2⟩
 unfold nD
 rw [e1, hv, if_neg (by omega)]
theorem tD_on {s q t : Str} {a : Nat} (h : s.drop a = textB t ++ q) (ht : t.length ≤ 64) : tD s a = some (t, a + (2 + t.length)) ∧ s.drop (a + (2 + t.length)) = q := by
 unfold textB at h
 rw [List.append_assoc] at h
 obtain ⟨e1, e2, e3⟩ := win_on h (leB_len _ _)
 have hv := leV_leL 2 t.length (by omega)
 obtain ⟨f1, f2, f3⟩ := win_on e2 rfl
 rw [List.length_append] at e3
 refine ⟨?_, by rw [← Nat.add_assoc]; exact f2⟩
 unfold tD takeT
 rw [e1, hv, if_neg (by omega), if_neg (by omega), f1, Nat.add_assoc]
theorem sD_on {s q t : Str} {a : Nat} (h : s.drop a = t ++ q) (ht : t.length = 32) : sD s a = some (t, a + 32) ∧ s.drop (a + 32) = q := by
 obtain ⟨e1, e2, e3⟩ := win_on h ht
 refine ⟨?_, e2⟩
 unfold sD
 rw [e1, if_neg (by omega)]
structure EntF (n : api_Node) (r : api_Root) : Prop where
 ok : EntOK n r
 at_ : n.Atime_ ≤ 1099511627776
 mt_ : n.Mtime_ ≤ 1099511627776
theorem entD_on {s q : Str} {a : Nat} {n : api_Node} {r : api_Root} (hF : EntF n r) (hd : s.drop a = encE n r ++ q) : entD s a = some (bare n, r, a + (encE n r).length) ∧ s.drop (a + (encE n r).length) = q := by
 have h := hF.ok
 have hl : (encE n r).length = 4 + 4 + 4 + 4 + 8 + 8 + (2 + n.Name_.length) + (2 + n.Uid_.length) + (2 + n.Gid_.length) + (2 + n.Muid_.length) + 4 + 1 + 32 := by
  simp only [encE, List.length_append, leB_len, textB_len, h.score]
 rw [hl]
 unfold encE at hd
 simp only [List.append_assoc] at hd
 have hb1 := h.id
 have hb2 := h.par
 have hb3 := h.vers
 have hb4 := h.mode
 have hb11 := h.len
 have hb12 := h.lev
 have hb5 := h.atime
 have hb6 := h.mtime
 have hb7 := hF.at_
 have hb8 := hF.mt_
 obtain ⟨d1, g1⟩ := nD_on hd (by omega) (by omega) (by omega)
 obtain ⟨d2, g2⟩ := nD_on g1 (by omega) (by omega) (by omega)
 obtain ⟨d3, g3⟩ := nD_on g2 (by omega) (by omega) (by omega)
 obtain ⟨d4, g4⟩ := nD_on g3 (by omega) (by omega) (by omega)
 obtain ⟨d5, g5⟩ := nD_on g4 (by omega) (by omega) (by omega)
 obtain ⟨d6, g6⟩ := nD_on g5 (by omega) (by omega) (by omega)
 obtain ⟨d7, g7⟩ := tD_on g6 h.name
 obtain ⟨d8, g8⟩ := tD_on g7 h.uid
 obtain ⟨d9, g9⟩ := tD_on g8 h.gid
 obtain ⟨d10, g10⟩ := tD_on g9 h.muid
 obtain ⟨d11, g11⟩ := nD_on g10 (by omega) (by omega) (by omega)
 obtain ⟨d12, g12⟩ := nD_on g11 (by omega) (by omega) (by omega)
 obtain ⟨d13, g13⟩ := sD_on g12 h.score
 have ha : a + 4 + 4 + 4 + 4 + 8 + 8 + (2 + n.Name_.length) + (2 + n.Uid_.length) + (2 + n.Gid_.length) + (2 + n.Muid_.length) + 4 + 1 + 32 = a + (4 + 4 + 4 + 4 + 8 + 8 + (2 + n.Name_.length) + (2 + n.Uid_.length) + (2 + n.Gid_.length) + (2 + n.Muid_.length) + 4 + 1 + 32) := by omega
 rw [ha] at g13
 refine ⟨?_, g13⟩
 unfold entD
 simp only [d1, d2, d3, d4, d5, d6, d7, d8, d9, d10, d11, d12, d13, Option.bind_some, ha]
 rfl
theorem ents_on {s : Str} : ∀ {es : List (api_Node × api_Root)} {f a : Nat}, (∀ q ∈ es, EntF q.1 q.2 ∧ bare q.1 = q.1) → s.drop a = (es.map fun q => encE q.1 q.2).flatten → s.length - a < f → entsF s f a = some es
 | [], f, a, _, hd, hf => by
  obtain ⟨f, rfl⟩ : ∃ g, f = g + 1 := ⟨f - 1, by omega⟩
  have := congrArg List.length hd
  rw [List.length_drop] at this
  unfold entsF
  rw [if_neg]
  simp at this
  omega
 | q :: es, f, a, hq, hd, hf => by
  obtain ⟨f, rfl⟩ : ∃ g, f = g + 1 := ⟨f - 1, by omega⟩
  obtain ⟨h1, h2⟩ := hq q List.mem_cons_self
  rw [List.map_cons, List.flatten_cons] at hd
  obtain ⟨d1, d2⟩ := entD_on h1 hd
  have hl := (encE_len h1.ok).2
  have := congrArg List.length hd
  rw [List.length_drop, List.length_append] at this
  have ih := ents_on (es := es) (f := f) (fun q hq' => hq q (List.mem_cons_of_mem _ hq')) d2 (by omega)
  unfold entsF
  rw [if_pos (by omega), d1]
  simp only [Option.bind_some]
  rw [ih, h2]
  rfl
theorem kids_on {s : Str} {es : List (api_Node × api_Root)} {id : Int} (h : ∀ q ∈ es, EntF q.1 q.2 ∧ bare q.1 = q.1 ∧ q.1.Parent_ = id) (hd : s = (es.map fun q => encE q.1 q.2).flatten) : kidsF s id (s.length + 1) 0 = some es := by
 unfold kidsF
 rw [ents_on (fun q hq => ⟨(h q hq).1, (h q hq).2.1⟩) (by rw [List.drop_zero]; exact hd) (by omega)]
 have : (es.all fun q => q.1.Parent_ == id) = true := List.all_eq_true.2 fun q hq => by
  rw [(h q hq).2.2]
  exact beq_self_eq_true _
 simp only [Option.bind_some, this, if_true]
theorem finP_back {s u : api_Store} {k : Int} {d : Str} (hk : 1 ≤ k ∧ k ≤ 4) (hs : StOK s) (hd : d.length ≤ 1048576) (he : (finP s k d).2.2 = 0) (hu : StLe (finP s k d).1 u) : (fileR u k (finP s k d).2.1).1 = d ∧ (fileR u k (finP s k d).2.1).2.2 = 0 := by
 unfold finP at he hu ⊢
 by_cases h0 : (putS s k d).err = 0
 ·rw [if_pos h0] at hu ⊢
  have h1 := put_sto hk hs hd h0
  obtain ⟨h2, _⟩ := upF_ok 3 hk hs (ps := pieces d)
  exact fileR_sto hd (sto_score h2 h1) (h1.le hu)
 ·rw [if_neg h0] at he
  exact absurd he h0
end Go.Proofs.YtfdmakpcmkbhhaaGreatDoor
namespace Go.Proofs.YtfdmakpcmkbhhaaGreatDoor
open Go.Rt Go.RowKit
def subN (l : List api_Node) : Nat → api_Node → List api_Node
 | 0, _ => []
 | f + 1, n => if hasI n.Mode_ 31 then n :: (childT l n.Id_).flatMap (fun k => subN l f (nodeT l k).1) else [n]
theorem sub_head {l : List api_Node} {f : Nat} (n : api_Node) (h : 0 < f) : n ∈ subN l f n := by
 obtain ⟨f, rfl⟩ : ∃ g, f = g + 1 := ⟨f - 1, by omega⟩
 unfold subN
 split
 ·exact List.mem_cons_self
 ·exact List.mem_cons_self
theorem sub_mem {l : List api_Node} {next : Int} (h : OkT l next) : ∀ (f : Nat) {n x : api_Node}, n ∈ l → x ∈ subN l f n → x ∈ l ∧ n.Id_ ≤ x.Id_
 | 0, n, x, _, hx => by cases hx
 | f + 1, n, x, hn, hx => by
  unfold subN at hx
  split at hx
  ·rcases List.mem_cons.1 hx with rfl | hx
   ·exact ⟨hn, Int.le_refl _⟩
   ·obtain ⟨k, hk, hx⟩ := List.mem_flatMap.1 hx
    obtain ⟨c, hc, e, _, _, hnode, hlt⟩ := child_of h hk
    rw [hnode] at hx
    obtain ⟨h1, h2⟩ := sub_mem h f hc hx
    exact ⟨h1, by omega⟩
  ·rw [List.mem_singleton] at hx
   rw [hx]
   exact ⟨hn, Int.le_refl _⟩
theorem mem_child {l : List api_Node} {c : api_Node} {id : Int} (hc : c ∈ l) (hp : c.Parent_ = id) (h1 : c.Id_ ≠ 1) : c.Id_ ∈ childT l id := by
 unfold childT
 refine List.mem_map.2 ⟨c, List.mem_filter.2 ⟨hc, ?_⟩, rfl⟩
 simp [hp, h1]
theorem sub_closed {l : List api_Node} {next : Int} (h : OkT l next) : ∀ (f : Nat) {n p c : api_Node}, (next - n.Id_).toNat < f → n ∈ l → p ∈ subN l f n → hasI p.Mode_ 31 = true → c ∈ l → c.Id_ ≠ 1 → c.Parent_ = p.Id_ → p.Id_ < c.Id_ → c ∈ subN l f n
 | 0, n, p, c, hf, _, _, _, _, _, _, _ => by omega
 | f + 1, n, p, c, hf, hn, hp, hd, hc, h1, hcp, hlt => by
  unfold subN at hp ⊢
  by_cases hdn : hasI n.Mode_ 31 = true
  ·rw [if_pos hdn] at hp ⊢
   refine List.mem_cons_of_mem _ (List.mem_flatMap.2 ?_)
   rcases List.mem_cons.1 hp with rfl | hp
   ·refine ⟨c.Id_, mem_child hc hcp h1, ?_⟩
    rw [nodeT_of h.srt hc]
    have := h.nxt c hc
    exact sub_head c (by omega)
   ·obtain ⟨k, hk, hp⟩ := List.mem_flatMap.1 hp
    refine ⟨k, hk, ?_⟩
    obtain ⟨m, hm, e, _, _, hnode, hlt2⟩ := child_of h hk
    rw [hnode] at hp ⊢
    have := h.nxt m hm
    exact sub_closed h f (n := m) (by omega) hm hp hd hc h1 hcp hlt
  ·rw [if_neg hdn] at hp
   rw [List.mem_singleton] at hp
   rw [hp] at hd
   exact absurd hd hdn
theorem sub_all {l : List api_Node} {next : Int} (h : OkT l next) {f : Nat} (hf : (next - (rootN l).Id_).toNat < f) : ∀ (m : Nat) {x : api_Node}, x.Id_.toNat ≤ m → x ∈ l → x ∈ subN l f (rootN l)
 | 0, x, hm, hx => by
  have := h.ge hx
  omega
 | m + 1, x, hm, hx => by
  obtain ⟨r1, r2, _⟩ := root_of h
  have hge := h.ge hx
  by_cases h1 : x.Id_ = 1
  ·have : x = rootN l := id_inj h.srt hx r1 (by rw [h1, r2])
   rw [this]
   exact sub_head _ (by omega)
  ·obtain ⟨p, hp, e, hlt, hd⟩ := h.par x hx h1
   have hpm := sub_all h hf m (x := p) (by have := h.ge hp; omega) hp
   exact sub_closed h f hf r1 hpm hd hx h1 e.symm hlt
theorem sub_par {l : List api_Node} {next : Int} (h : OkT l next) : ∀ (f : Nat) {n x : api_Node}, n ∈ l → x ∈ subN l f n → x = n ∨ (x.Id_ ≠ 1 ∧ ∃ p ∈ subN l f n, p.Id_ = x.Parent_)
 | 0, n, x, _, hx => by cases hx
 | f + 1, n, x, hn, hx => by
  unfold subN at hx ⊢
  by_cases hd : hasI n.Mode_ 31 = true
  ·rw [if_pos hd] at hx ⊢
   rcases List.mem_cons.1 hx with rfl | hx
   ·exact .inl rfl
   ·obtain ⟨k, hk, hx⟩ := List.mem_flatMap.1 hx
    obtain ⟨c, hc, e, hcp, hc1, hnode, hlt⟩ := child_of h hk
    rw [hnode] at hx
    refine .inr ?_
    rcases sub_par h f hc hx with rfl | ⟨h1, p, hp, e2⟩
    ·exact ⟨hc1, n, List.mem_cons_self, hcp.symm⟩
    ·exact ⟨h1, p, List.mem_cons_of_mem _ (List.mem_flatMap.2 ⟨k, hk, by rw [hnode]; exact hp⟩), e2⟩
  ·rw [if_neg hd] at hx
   rw [List.mem_singleton] at hx
   exact .inl hx
theorem sub_apart {l : List api_Node} {next : Int} (h : OkT l next) (f : Nat) {c1 c2 : api_Node} (h1 : c1 ∈ l) (h2 : c2 ∈ l) (hp : c1.Parent_ = c2.Parent_) (hl1 : c1.Parent_ < c1.Id_) (hl2 : c2.Parent_ < c2.Id_) (hne : c1 ≠ c2) : ∀ (m : Nat) {x : api_Node}, x.Id_.toNat ≤ m → x ∈ subN l f c1 → x ∈ subN l f c2 → False
 | 0, x, hm, hx1, hx2 => by
  have := h.ge (sub_mem h f h1 hx1).1
  omega
 | m + 1, x, hm, hx1, hx2 => by
  rcases sub_par h f h1 hx1 with rfl | ⟨g1, p1, hp1, e1⟩
  ·rcases sub_par h f h2 hx2 with rfl | ⟨g2, p2, hp2, e2⟩
   ·exact hne rfl
   ·have := (sub_mem h f h2 hp2).2
    omega
  ·rcases sub_par h f h2 hx2 with rfl | ⟨g2, p2, hp2, e2⟩
   ·have := (sub_mem h f h1 hp1).2
    omega
   ·obtain ⟨i1, _⟩ := sub_mem h f h1 hp1
    obtain ⟨i2, _⟩ := sub_mem h f h2 hp2
    have e : p1 = p2 := id_inj h.srt i1 i2 (by rw [e1, e2])
    subst e
    obtain ⟨p, _, e3, hlt, _⟩ := h.par x (sub_mem h f h1 hx1).1 g1
    have := h.ge i1
    exact sub_apart h f h1 h2 hp hl1 hl2 hne m (x := p1) (by omega) hp1 hp2
theorem child_nodup {l : List api_Node} {next : Int} (h : OkT l next) (id : Int) : (childT l id).Nodup := by
 unfold childT
 rw [List.nodup_iff_pairwise_ne, List.pairwise_map]
 exact (h.srt.filter _).imp fun hh e => by omega
theorem flat_nodup {l : List api_Node} {next : Int} (h : OkT l next) {f : Nat} (IH : ∀ n ∈ l, (subN l f n).Nodup) {id : Int} : ∀ {ks : List Int}, (∀ k ∈ ks, k ∈ childT l id) → ks.Nodup → (ks.flatMap fun k => subN l f (nodeT l k).1).Nodup
 | [], _, _ => List.nodup_nil
 | k :: ks, hk, hn => by
  obtain ⟨c, hc, e, hcp, hc1, hnode, hlt⟩ := child_of h (hk k List.mem_cons_self)
  obtain ⟨n1, n2⟩ := List.nodup_cons.1 hn
  rw [List.flatMap_cons, hnode]
  refine List.nodup_append.2 ⟨IH c hc, flat_nodup h IH (fun k hk' => hk k (List.mem_cons_of_mem _ hk')) n2, fun a ha b hb hab => ?_⟩
  subst hab
  obtain ⟨k2, hk2, hb⟩ := List.mem_flatMap.1 hb
  obtain ⟨c2, hc2, e2, hcp2, hc12, hnode2, hlt2⟩ := child_of h (hk k2 (List.mem_cons_of_mem _ hk2))
  rw [hnode2] at hb
  refine sub_apart h f hc hc2 (by rw [hcp, hcp2]) (by omega) (by omega) (fun ee => ?_) _ (Nat.le_refl _) ha hb
  rw [← e, ee, e2] at n1
  exact n1 hk2
theorem sub_nodup {l : List api_Node} {next : Int} (h : OkT l next) : ∀ (f : Nat), ∀ n ∈ l, (subN l f n).Nodup
 | 0, n, _ => List.nodup_nil
 | f + 1, n, hn => by
  unfold subN
  split
  ·refine List.nodup_cons.2 ⟨fun hm => ?_, flat_nodup h (sub_nodup h f) (fun k hk => hk) (child_nodup h _)⟩
   obtain ⟨k, hk, hx⟩ := List.mem_flatMap.1 hm
   obtain ⟨c, hc, e, hcp, hc1, hnode, hlt⟩ := child_of h hk
   rw [hnode] at hx
   have := (sub_mem h f hc hx).2
   omega
  ·exact List.nodup_cons.2 ⟨by simp, List.nodup_nil⟩
theorem srt_nodup {l : List api_Node} (h : l.Pairwise fun a b => a.Id_ < b.Id_) : l.Nodup := by
 rw [List.nodup_iff_pairwise_ne]
 exact h.imp fun hh e => by rw [e] at hh; omega
theorem sub_perm {l : List api_Node} {next : Int} (h : OkT l next) {f : Nat} (hf : (next - (rootN l).Id_).toNat < f) : (subN l f (rootN l)).Perm l := by
 obtain ⟨r1, _⟩ := root_of h
 exact (List.perm_ext_iff_of_nodup (sub_nodup h f _ r1) (srt_nodup h.srt)).2 fun x => ⟨fun hx => (sub_mem h f r1 hx).1, fun hx => sub_all h hf _ (Nat.le_refl _) hx⟩
end Go.Proofs.YtfdmakpcmkbhhaaGreatDoor
namespace Go.Proofs.YtfdmakpcmkbhhaaGreatDoor
open Go.Rt Go.RowKit
theorem OkT.entF {l : List api_Node} {next : Int} (h : OkT l next) {n : api_Node} (hn : n ∈ l) {r : api_Root} (hr : RootF r) : EntF (bare n) r := by
 obtain ⟨_, _, h3, h4, _⟩ := okNode_all (h.flds n hn)
 exact ⟨(h.ent hn hr).bare, h3.2, h4.2⟩
theorem bare_eq {n : api_Node} (h : n.Data_ = []) : bare n = n := by
 cases n
 simp only at h
 rw [h]
 rfl
def BackOK (l : List api_Node) (f : Nat) : Prop := ∀ (s u : api_Store) (n : api_Node) (g : Nat) (left : Int), n ∈ l → StOK s → (putN l f s n).2.2 = 0 → StLe (putN l f s n).1 u → ((subN l f n).length : Int) ≤ left → left.toNat < g → ∃ seen, getN u g (bare n) (putN l f s n).2.1 left = (subN l f n, seen, 0)
theorem kids_back {l : List api_Node} {next : Int} (h : OkT l next) {f : Nat} (IH : BackOK l f) {id : Int} {u : api_Store} : ∀ {ks : List Int} {a b : Str × api_Store}, (∀ k ∈ ks, k ∈ childT l id) → StOK a.2 → runS (fPN l (putN l f)) a ks = .inl b → StLe b.2 u →
  ∃ es : List (api_Node × api_Root), b.1 = a.1 ++ (es.map fun q => encE q.1 q.2).flatten ∧ (∀ q ∈ es, EntF q.1 q.2 ∧ bare q.1 = q.1 ∧ q.1.Parent_ = id) ∧
   ∀ (g : Nat) (left : Int) (acc : List api_Node × List Str), (acc.1.length : Int) + ((ks.flatMap fun k => subN l f (nodeT l k).1).length : Int) ≤ left → (left - (acc.1.length : Int)).toNat < g → ∃ seen, runS (fG (getN u g) left) acc es = .inl (acc.1 ++ ks.flatMap (fun k => subN l f (nodeT l k).1), seen)
 | [], a, b, _, hs, hr, hu => by
  simp only [runS, Sum.inl.injEq] at hr
  subst hr
  exact ⟨[], by simp, fun q hq => (by cases hq), fun g left acc _ _ => ⟨acc.2, by simp [runS]⟩⟩
 | k :: ks, a, b, hk, hs, hr, hu => by
  obtain ⟨c, hc, e, hcp, hc1, hnode, hlt⟩ := child_of h (hk k List.mem_cons_self)
  obtain ⟨b1, b2, b3⟩ := putN_ok h f (s := a.2) hc hs
  have hks : ∀ k ∈ ks, k ∈ childT l id := fun k hk' => hk k (List.mem_cons_of_mem _ hk')
  simp only [runS] at hr
  unfold fPN at hr
  rw [hnode] at hr
  simp only at hr
  by_cases h0 : (putN l f a.2 c).2.2 = 0
  ·rw [if_pos h0] at hr
   obtain ⟨_, c2⟩ := kids_mono h f hks (by exact b1) hr
   obtain ⟨es, e1, e2, e3⟩ := kids_back h IH hks (by exact b1) hr hu
   refine ⟨(bare c, (putN l f a.2 c).2.1) :: es, ?_, fun q hq => ?_, fun g left acc hl hg => ?_⟩
   ·rw [e1]
    simp only [List.map_cons, List.flatten_cons, encE_bare, List.append_assoc]
   ·rcases List.mem_cons.1 hq with rfl | hq
    ·exact ⟨h.entF hc (b3 h0), rfl, hcp⟩
    ·exact e2 q hq
   ·rw [List.flatMap_cons, hnode, List.length_append] at hl
    dsimp only at hl
    obtain ⟨seen1, g1⟩ := IH a.2 u c g (left - (acc.1.length : Int)) hc hs h0 (StLe.trans c2 hu) (by omega) hg
    obtain ⟨seen2, g2⟩ := e3 g left (acc.1 ++ subN l f c, acc.2 ++ seen1) (by simp only [List.length_append]; omega) (by simp only [List.length_append]; omega)
    refine ⟨seen2, ?_⟩
    simp only [runS]
    unfold fG
    simp only [g1, if_true]
    refine g2.trans ?_
    rw [List.flatMap_cons, hnode, List.append_assoc]
  ·rw [if_neg h0] at hr
   cases hr
theorem back_succ {l : List api_Node} {next : Int} (h : OkT l next) {f : Nat} (IH : BackOK l f) : BackOK l (f + 1) := by
 intro s u n g left hn hs he hu hl hg
 obtain ⟨g, rfl⟩ : ∃ g', g = g' + 1 := ⟨g - 1, by omega⟩
 obtain ⟨o1, _, _, _, _, _, _, o8, o9⟩ := okNode_all (h.flds n hn)
 have hdir := isdir_eq o1
 by_cases hd : hasI n.Mode_ 31 = true
 ·rw [hd, decide_eq_true_eq] at hdir
  have hkind : kindN (bare n) = 3 := if_pos hdir
  have hS : subN l (f + 1) n = n :: (childT l n.Id_).flatMap (fun k => subN l f (nodeT l k).1) := by rw [subN, if_pos hd]
  cases hq : runS (fPN l (putN l f)) ([], s) (childT l n.Id_) with
  | inr e =>
   have hP : putN l (f + 1) s n = (s, root0, e) := by rw [putN, if_pos hd, hq]; rfl
   rw [hP] at he
   exact absurd he (fPN_err hq)
  | inl a =>
   have hP : putN l (f + 1) s n = finP a.2 3 a.1 := by rw [putN, if_pos hd, hq]; rfl
   rw [hP] at he hu ⊢
   rw [hS] at hl ⊢
   obtain ⟨m1, m2⟩ := kids_mono h f (fun k hk => hk) (by exact hs) hq
   have hle : StLe a.2 (finP a.2 3 a.1).1 := by
    unfold finP
    split
    ·exact (upF_ok 3 (by omega) m1).2
    ·exact StLe.refl _
   obtain ⟨es, e1, e2, e3⟩ := kids_back h IH (fun k hk => hk) (by exact hs) hq (hle.trans hu)
   rw [List.nil_append] at e1
   have hlen : a.1.length ≤ 1048576 := by
    have hr := runS_list (f := fPN l (putN l f)) (fun i a => StOK a.2 ∧ a.1.length ≤ 333 * i) (fun e => e ≠ 0) (xs := childT l n.Id_) (k := 0) (s0 := ([], s)) ⟨hs, by simp⟩ fun i a id hid ⟨a1, a3⟩ => by
     obtain ⟨c, hc, _, _, _, hnode, _⟩ := child_of h hid
     obtain ⟨b1, b2, b3⟩ := putN_ok h f (s := a.2) hc a1
     unfold fPN
     rw [hnode]
     simp only
     refine ⟨fun s' he => ?_, fun e he => ?_⟩
     ·split at he
      ·rename_i h0
       obtain rfl := Sum.inl.inj he
       have := (encE_len (h.ent hc (b3 h0))).1
       refine ⟨b1, ?_⟩
       simp only [List.length_append]
       omega
      ·cases he
     ·split at he
      ·cases he
      ·rename_i h0
       obtain rfl := Sum.inr.inj he
       exact h0
    obtain ⟨_, a2⟩ := hr.1 a hq
    have := childT_len l n.Id_
    have := h.len
    omega
   obtain ⟨f1, f2⟩ := finP_back (by omega) m1 hlen he hu
   generalize (finP a.2 3 a.1).2.1 = R at *
   have hkd : kidsF a.1 (bare n).Id_ (a.1.length + 1) 0 = some es := kids_on e2 e1
   obtain ⟨seen, g1⟩ := e3 g left ([n], (fileR u 3 R).2.1) (by simp only [List.length_cons, List.length_nil] at hl ⊢; omega) (by simp only [List.length_cons, List.length_nil] at hl ⊢; omega)
   refine ⟨seen, ?_⟩
   rw [getN, if_neg (by simp only [List.length_cons] at hl; omega), hkind, if_pos f2, if_pos (by exact hdir), f1, hkd]
   simp only
   rw [bare_eq (o9 hd), g1]
   rfl
 ·have hdir' : ¬ n.Mode_ ≥ 2147483648 := fun hm => hd (by rw [← hdir]; exact decide_eq_true hm)
  have hkind : kindN (bare n) = 1 := if_neg hdir'
  have hS : subN l (f + 1) n = [n] := by rw [subN, if_neg hd]
  have hP : putN l (f + 1) s n = finP s 1 n.Data_ := by rw [putN, if_neg hd]
  rw [hP] at he hu ⊢
  rw [hS] at hl ⊢
  obtain ⟨f1, f2⟩ := finP_back (by omega) hs (by omega) he hu
  generalize (finP s 1 n.Data_).2.1 = R at *
  refine ⟨(fileR u 1 R).2.1, ?_⟩
  rw [getN, if_neg (by simp only [List.length_singleton] at hl; omega), hkind, if_pos f2, if_neg (by exact hdir'), f1]
  rfl
theorem putN_back {l : List api_Node} {next : Int} (h : OkT l next) : ∀ f, BackOK l f
 | 0 => fun s u n g left _ _ he _ _ _ => by cases he
 | f + 1 => back_succ h (putN_back h f)
abbrev InSt (s : api_Store) (x : Str) : Prop := ∃ b, findB s x = some b
theorem rdF_seen {s : api_Store} (k : Int) : ∀ (l : Nat) {sc : Str} {len a b : Nat}, ∀ x ∈ (rdF s k l sc len a b).2.1, InSt s x
 | 0, sc, len, a, b, x, hx => by
  unfold rdF at hx
  split at hx
  ·rename_i h0
   split at hx
   ·rw [List.mem_singleton] at hx
    rw [hx]
    exact blk_some h0
   ·rw [List.mem_singleton] at hx
    rw [hx]
    exact blk_some h0
  ·cases hx
 | l + 1, sc, len, a, b, x, hx => by
  rw [rdF] at hx
  split at hx
  ·rename_i h0
   split at hx
   ·have hr := runS_inv (f := fRd (rdF s k l) (blk s sc 2).1 (unitN l) len a b) (fun _ acc => ∀ y ∈ acc.2, InSt s y) (fun r => ∀ y ∈ r.2.1, InSt s y) (n := (len + unitN l - 1) / unitN l) (s0 := ([], [sc])) (fun y hy => by rw [List.mem_singleton] at hy; rw [hy]; exact blk_some h0) fun i acc hi hI => by
     have ih := rdF_seen (s := s) k l (sc := ((blk s sc 2).1.drop (32 * i)).take 32) (len := sizeN (unitN l) len i) (a := min (a - i * unitN l) (sizeN (unitN l) len i)) (b := min (b - i * unitN l) (sizeN (unitN l) len i))
     unfold fRd
     refine ⟨fun s' he => ?_, fun e he => ?_⟩
     ·split at he
      ·obtain rfl := Sum.inl.inj he
       exact hI
      ·simp only at he
       split at he
       ·obtain rfl := Sum.inl.inj he
        intro y hy
        rcases List.mem_append.1 hy with hy | hy
        ·exact hI y hy
        ·exact ih y hy
       ·cases he
     ·split at he
      ·cases he
      ·simp only at he
       split at he
       ·cases he
       ·obtain rfl := Sum.inr.inj he
        intro y hy
        rcases List.mem_append.1 hy with hy | hy
        ·exact hI y hy
        ·exact ih y hy
    cases hq : runS (fRd (rdF s k l) (blk s sc 2).1 (unitN l) len a b) ([], [sc]) (List.range ((len + unitN l - 1) / unitN l)) with
    | inl acc =>
     rw [hq] at hx
     exact hr.1 acc hq x hx
    | inr r =>
     rw [hq] at hx
     exact hr.2 r hq x hx
   ·rw [List.mem_singleton] at hx
    rw [hx]
    exact blk_some h0
  ·cases hx
theorem fileR_seen {s : api_Store} (k : Int) (r : api_Root) : ∀ x ∈ (fileR s k r).2.1, InSt s x := by
 intro x hx
 unfold fileR at hx
 split at hx
 ·exact rdF_seen k _ x hx
 ·cases hx
theorem getN_seen {s : api_Store} : ∀ (f : Nat) {n : api_Node} {r : api_Root} {left : Int}, ∀ x ∈ (getN s f n r left).2.1, InSt s x
 | 0, n, r, left, x, hx => by cases hx
 | f + 1, n, r, left, x, hx => by
  have h0 := fileR_seen (s := s) (kindN n) r
  rw [getN] at hx
  split at hx
  ·cases hx
  ·split at hx
   ·split at hx
    ·split at hx
     ·exact h0 x hx
     ·rename_i l _
      have hr := runS_list (f := fG (getN s f) left) (fun _ acc => ∀ y ∈ acc.2, InSt s y) (fun r => ∀ y ∈ r.2.1, InSt s y) (xs := l) (k := 0) (s0 := ([n], (fileR s (kindN n) r).2.1)) h0 fun i acc q _ hI => by
       have ih := getN_seen (s := s) f (n := q.1) (r := q.2) (left := left - (acc.1.length : Int))
       unfold fG
       refine ⟨fun s' he => ?_, fun e he => ?_⟩
       ·split at he
        ·obtain rfl := Sum.inl.inj he
         intro y hy
         rcases List.mem_append.1 hy with hy | hy
         ·exact hI y hy
         ·exact ih y hy
        ·cases he
       ·split at he
        ·cases he
        ·obtain rfl := Sum.inr.inj he
         intro y hy
         rcases List.mem_append.1 hy with hy | hy
         ·exact hI y hy
         ·exact ih y hy
      cases hq : runS (fG (getN s f) left) ([n], (fileR s (kindN n) r).2.1) l with
      | inl acc =>
       rw [hq] at hx
       exact hr.1 acc hq x hx
      | inr e =>
       rw [hq] at hx
       exact hr.2 e hq x hx
    ·exact h0 x hx
   ·exact h0 x hx
end Go.Proofs.YtfdmakpcmkbhhaaGreatDoor
namespace Go.Proofs.YtfdmakpcmkbhhaaGreatDoor
open Go.Rt Go.RowKit
theorem headD_on {t : api_Tree} {n : api_Node} {r : api_Root} (h : EntF n r) (h1 : 0 ≤ t.Next_ ∧ t.Next_ ≤ 1048576) (h2 : t.Nodes_.length ≤ 1024) : headD (headT t n r) = some (t.Next_, (t.Nodes_.length : Int), bare n, r, (headT t n r).length) := by
 have hd : (headT t n r).drop 0 = leB t.Next_ 4 ++ (leB (t.Nodes_.length : Int) 4 ++ (encE n r ++ [])) := by
  rw [List.drop_zero]
  unfold headT
  simp only [List.append_assoc, List.append_nil]
 obtain ⟨d1, g1⟩ := nD_on hd h1.1 (by omega) (by omega)
 obtain ⟨d2, g2⟩ := nD_on g1 (by omega) (by omega) (by omega)
 obtain ⟨d3, _⟩ := entD_on h g2
 have hl : (headT t n r).length = 0 + 4 + 4 + (encE n r).length := by
  simp only [headT, List.length_append, leB_len]
 unfold headD
 simp only [d1, d2, d3, Option.bind_some, Option.map_some]
 rw [hl]
theorem tree_back {u : api_Store} (hu : StOK u) {sc d : Str} {next : Int} {n : api_Node} {r : api_Root} {l ns : List api_Node} {seen : List Str} (hb : blk u sc 4 = (d, 0)) (hh : headD d = some (next, (l.length : Int), n, r, d.length)) (hg : getN u 1025 n r (l.length : Int) = (ns, seen, 0)) (hp : ns.Perm l) (h : OkT l next) :
  archive_reader_tree (archive_reader.mk u []) sc = some (api_Tree.mk next l, 0, archive_reader.mk u ([sc] ++ seen)) := by
 have hbl := blk_len hu sc 4
 have hrb := reader_block_eq hu sc 4 (seen := []) (by simp)
 rw [hb] at hbl hrb
 rw [if_pos rfl] at hrb
 obtain ⟨v1, d1, v2, d2, x, d3, p1, p2, p3, p4⟩ := P_head hbl
 rw [hh] at p4
 obtain ⟨p5, p6, rfl, rfl, rfl⟩ := p4
 have hl := h.len
 have hl1 : 1 ≤ l.length := by
  obtain ⟨_, _, rfl, _⟩ := h.root
  simp
 obtain ⟨e, b, rd, k1, k2, k3⟩ := add_P hu 1025 BIG (ns := []) (seen := [] ++ [sc]) (most := (l.length : Int)) (n := n) (r := r) (by decide) (by simp; omega) (by omega) (by simp)
 have hz : (l.length : Int) - (([] : List api_Node).length : Int) = (l.length : Int) := by simp
 rw [hz, hg] at k2 k3
 obtain ⟨rfl, rfl⟩ := k3 k2
 have hnl := hp.length_eq
 simp only [List.nil_append] at k1
 obtain ⟨y, hy⟩ : ∃ y, sortBy (fun n : api_Node => n.Id_) ns = some y := ⟨_, by unfold sortBy; rw [if_pos (by omega)]⟩
 obtain ⟨y1, y2⟩ := sortBy_perm hy
 have hyl : y = l := by
  refine perm_sorted_eq (y1.trans hp) y2 (h.srt.imp fun hh => ?_) fun a ha b hb h3 h4 => ?_
  ·unfold leK
   simp only [decide_eq_true_eq]
   omega
  ·unfold leK at h3 h4
   simp only [decide_eq_true_eq] at h3 h4
   exact id_inj h.srt ((y1.trans hp).subset ha) ((y1.trans hp).subset hb) (by omega)
 subst hyl
 obtain ⟨b1, t1, t2⟩ := tree_right_iff (api_Tree.mk v1 y) (by show y.length ≤ 1024; omega) (fun x hx => ⟨h.hm hx, by have := h.name hx; omega⟩)
 have hb1 := t2.2 h
 subst hb1
 unfold archive_reader_tree
 refine bind_eq hrb (cond_f rfl (bind_eq p1 (bind_eq p2 (bind_eq p3 (cond_f ?_ (bind_eq k1 (cond_f (by rw [k2]; rfl) (bind_eq hy (bind_eq (a := false) (cond_f ?_ (bind_eq t1 rfl)) rfl)))))))))
 ·simp [p5, p6]
  omega
 ·simp
@[irreducible] def subT (l : List api_Node) : List api_Node := subN l BIG (rootN l)
theorem subT_eq (l : List api_Node) : subN l BIG (rootN l) = subT l := by unfold subT; rfl
theorem restored {s u : api_Store} {a : api_Tree} (hs : StOK s) (hu : StOK u) (h : OkT a.Nodes_ a.Next_) (he : (treeS s a).2.2 = 0) (hle : StLe (treeS s a).1 u) :
  ∃ seen, archive_reader_tree (archive_reader.mk u []) (treeS s a).2.1 = some (a, 0, archive_reader.mk u ([(treeS s a).2.1] ++ seen)) ∧ seen.length ≤ 1057 * 1024 ∧ ∀ x ∈ [(treeS s a).2.1] ++ seen, InSt u x := by
 obtain ⟨r1, r2, _⟩ := root_of h
 obtain ⟨b1, b2, b3⟩ := putN_ok h BIG (s := s) r1 hs
 have hback := putN_back h BIG s u (rootN a.Nodes_) 1025 (a.Nodes_.length : Int) r1 hs
 have hperm := sub_perm h (fuel_big h r1)
 have hl := h.len
 have hx := h.nxt _ r1
 have hx2 := h.nx2
 rw [putT_eq] at b1 b2 b3
 rw [putT_eq, subT_eq] at hback
 rw [subT_eq] at hperm
 have hpl := hperm.length_eq
 unfold treeS at he hle ⊢
 by_cases h0 : (putT a.Nodes_ s).2.2 = 0
 ·rw [if_pos h0] at he hle ⊢
  generalize putT a.Nodes_ s = R at *
  have hent := h.entF r1 (b3 h0)
  have hd : headT a (bare (rootN a.Nodes_)) R.2.1 = headT a (rootN a.Nodes_) R.2.1 := rfl
  generalize hdd : headT a (rootN a.Nodes_) R.2.1 = d at *
  by_cases h1 : (putB R.1 4 d).2.2 = 0
  ·rw [if_pos h1] at he hle ⊢
   obtain ⟨c1, c2, c3⟩ := putB_ok (s := R.1) (k := 4) (d := d) b1 (by omega)
   obtain ⟨c4, c5, c6⟩ := c3 h1
   have hf := hle.find c6
   obtain ⟨seen, hg⟩ := hback h0 (c2.trans hle) (by omega) (by omega)
   have hb := blk_found hf
   have hh := headD_on (t := a) hent (by omega) hl
   rw [hd] at hh
   have ht := tree_back hu hb hh hg hperm h
   have hbd := getN_bound hu 1025 (n := bare (rootN a.Nodes_)) (r := R.2.1) (left := (a.Nodes_.length : Int)) (by rw [hg])
   rw [hg] at hbd
   dsimp only at hbd
   refine ⟨seen, by rw [c4]; exact ht, by omega, fun x hx => ?_⟩
   rcases List.mem_append.1 hx with hx | hx
   ·rw [List.mem_singleton] at hx
    rw [hx, c4]
    exact ⟨_, hf⟩
   ·have := getN_seen (s := u) 1025 (n := bare (rootN a.Nodes_)) (r := R.2.1) (left := (a.Nodes_.length : Int)) x
    rw [hg] at this
    exact this hx
  ·rw [if_neg h1] at he
   exact absurd he h1
 ·rw [if_neg h0] at he
  exact absurd he h0
end Go.Proofs.YtfdmakpcmkbhhaaGreatDoor
namespace Go.Proofs.YtfdmakpcmkbhhaaGreatDoor
open Go.Rt Go.RowKit
theorem canon_le (l : List Str) : (canon l).length ≤ l.length := by
 unfold canon Lib.compact Lib.compactUpTo
 rw [List.length_map]
 refine Nat.le_trans (List.length_filter_le _ _) ?_
 rw [List.length_range, (isort_perm l).length_eq]
 exact Nat.le_refl _
theorem Has_eq {s : api_Store} {sc : Str} (hs : StOK s) (h : InSt s sc) : ref15_Has s sc = some true := by
 obtain ⟨b, hb⟩ := h
 unfold ref15_Has
 have hl := hs.size
 refine bind_eq (at_loop sc (by omega)) (congrArg some ?_)
 rw [at_ge]
 have hb' : s.Blocks_.find? (isSc sc) = some b := hb
 rw [hb']
 rfl
theorem PutTree_any {s : api_Store} {t : api_Tree} (hs : StOK s) (hl : t.Nodes_.length ≤ 1024) (hf : TreeF t) : ∃ q, archive_PutTree s t = some q ∧ StOK q.1 ∧ StLe s q.1 := by
 obtain ⟨p, g1, g2⟩ := tree_right_iff t hl hf.2
 cases p with
 | true =>
  have h := g2.1 rfl
  obtain ⟨h1, h2⟩ := treeS_ok hs h
  exact ⟨_, PutTree_eq hs h g1, h1, h2⟩
 | false =>
  have hown := own_eq (s := s) (by have := hs.size; omega)
  refine ⟨(s, [], 1), ?_, hs, StLe.refl s⟩
  unfold archive_PutTree
  exact bind_eq g1 (cond_t rfl (bind_eq hown rfl))
theorem archiveRestores_plain (x0 : api_Store) (x1 : api_Tree) (x2 : api_Tree) (_ : Fit te (.st 1) x0) (h1 : Fit te (.st 8) x1) (h2 : Fit te (.st 8) x2) : law16_ArchiveRestores x0 x1 x2 = some true := by
 have hf1 := tree_fit h1
 have hf2 := tree_fit h2
 unfold law16_ArchiveRestores
 have hA : (law16_awake.bind fun y4 => some y4) = some true := by rw [awake_eq]; rfl
 obtain ⟨b, e1, e2⟩ := light_eq x0
 obtain ⟨c, e3, e4⟩ := small_eq x1 hf1.1
 obtain ⟨d, e5, e6⟩ := small_eq x2 hf2.1
 refine bind_eq e1 ?_
 cases b with
 | false => exact bind_eq (a := true) rfl (bind_eq (a := true) rfl (bind_eq (a := true) rfl (bind_eq (a := true) rfl hA)))
 | true =>
 refine bind_eq (a := !c) (bind_eq e3 rfl) ?_
 cases c with
 | false => exact bind_eq (a := true) rfl (bind_eq (a := true) rfl (bind_eq (a := true) rfl hA))
 | true =>
 refine bind_eq (a := !d) (bind_eq e5 rfl) ?_
 cases d with
 | false => exact bind_eq (a := true) rfl (bind_eq (a := true) rfl hA)
 | true =>
 obtain ⟨p, e7, e8⟩ := Right_iff (s := x0) (by have := (e2 rfl).1; omega)
 refine bind_eq (a := !p) (bind_eq e7 rfl) ?_
 cases p with
 | false => exact bind_eq (a := true) rfl hA
 | true =>
 have hs := e8.1 rfl
 obtain ⟨hn1, _⟩ := e4 rfl
 obtain ⟨hn2, _⟩ := e6 rfl
 obtain ⟨q, g1, g2⟩ := tree_right_iff x1 (by omega) hf1.2
 obtain ⟨r, g3, g4⟩ := ref10_right_iff x1 (by omega) hf1.2
 have hqr : q = r := by rw [Bool.eq_iff_iff, g2, g4]
 subst hqr
 refine bind_eq (a := !q) (bind_eq g3 rfl) ?_
 cases q with
 | false => exact hA
 | true =>
 have h := g2.1 rfl
 refine cond_f rfl (bind_eq (PutTree_eq hs h g1) ?_)
 by_cases he : (treeS x0 x1).2.2 = 0
 ·obtain ⟨k1, k2⟩ := treeS_ok hs h
  obtain ⟨w, w1, w2, w3⟩ := PutTree_any (t := x2) k1 (by omega) hf2
  obtain ⟨seen, s1, s2, s3⟩ := restored hs w2 h he w3
  have hag := treeS_again hs h he w3
  have hget : archive_GetTree w.1 (treeS x0 x1).2.1 = some (x1, 0) := by unfold archive_GetTree; exact bind_eq s1 rfl
  have hput : archive_PutTree w.1 x1 = some (w.1, (treeS x0 x1).2.1, 0) := by rw [PutTree_eq w2 h g1, hag]
  have hreach : archive_Reach w.1 (treeS x0 x1).2.1 = some (canon ([(treeS x0 x1).2.1] ++ seen), 0) := by
   unfold archive_Reach
   refine bind_eq s1 (cond_f rfl ?_)
   exact sort_compact (l := [(treeS x0 x1).2.1] ++ seen) (by simp; omega) (fun y3 => some (y3, (0 : Int)))
  have hLs : (canon ([(treeS x0 x1).2.1] ++ seen)).length ≤ 9223372036854775807 := by
   have h5 := canon_le ([(treeS x0 x1).2.1] ++ seen)
   have h7 : ([(treeS x0 x1).2.1] ++ seen).length ≤ 1 + 1057 * 1024 := by simp; omega
   omega
  have hmem := fun x => canon_mem ([(treeS x0 x1).2.1] ++ seen) x
  generalize canon ([(treeS x0 x1).2.1] ++ seen) = L at *
  have hne : (L.length : Int) ≠ 0 := fun e => by
   have : L = [] := List.length_eq_zero_iff.1 (by omega)
   have h0 := (hmem (treeS x0 x1).2.1).2 (by simp)
   rw [this] at h0
   cases h0
  have hsz := w2.size
  refine cond_f (by simp [he]) (bind_eq w1 (bind_eq hget (bind_eq hput (bind_eq hreach (bind_eq (a := false) (cond_f rfl (bind_eq (same_tree (t := x1) (by omega)) rfl)) (bind_eq (a := false) (cond_f (by simp) (bind_eq (Same_refl (s := w.1) (by omega)) rfl)) (cond_f (by simpa using hne) ?_)))))))
  have hlp := loop_traj (body := law16_ArchiveRestores_L1 (L, 0) w) (T := fun i => ((i : Int), L)) (b := Out.fall ()) L.length (lt_big (Nat.lt_succ_of_le hLs)) (fun i hi => ?_) ?_
  ·exact bind_eq hlp hA
  ·unfold law16_ArchiveRestores_L1
   refine cond_t (lt_t hi) (bind_eq (getI_lt hi) (bind_eq (Has_eq w2 (s3 _ ((hmem _).1 (List.getElem_mem hi)))) (cond_f rfl ?_)))
   rw [w_succ (by omega)]
  ·unfold law16_ArchiveRestores_L1
   exact cond_f (lt_f _) rfl
 ·exact cond_t (by simpa using he) hA
end Go.Proofs.YtfdmakpcmkbhhaaGreatDoor
