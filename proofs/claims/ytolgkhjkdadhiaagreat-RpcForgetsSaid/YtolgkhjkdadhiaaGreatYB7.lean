/-
 What the statements of this seat hang on, part 7: Qk Ql Qm Qq Qr Qs Qt Qu Qv Qz Qza Qn Qzb Qzd Qze Qzf Qzg.
-/
import Derived.Test.YtolgkhjkdadhiaaGreatYB6
namespace Go.Proofs.YtolgkhjkdadhiaaGreat
open Go.Rt Go.RowKit
theorem msg_same (m : api_Msg) (h1 : m.Names_.length ≤ 9223372036854775807) (h2 : m.Qids_.length ≤ 9223372036854775807) : ht_ m m = some true := by
 have hB : BIG = 18446744073709551616 := rfl
 unfold ht_
 refine ab_ (by simp) (aa_ (cd_ m.Names_ (fun _ => none) (by omega) (fun i hi => ?_) ?_) ?_)
 ·unfold iZ_
  refine ac_ (by simp; omega) (aa_ (az_ hi) (aa_ (az_ hi) (ab_ (by simp) ?_)))
  rw [am_ (n := (i : Int) + 1) ⟨by omega, by omega⟩]; rfl
 ·unfold iZ_
  exact ab_ (by simp) rfl
 ·have e : ∀ {α : Type} (l : List α), l.findSome? (fun _ => (none : Option Bool)) = none := by intro α l; simp
  rw [e]
  refine aa_ (cd_ m.Qids_ (fun _ => none) (by omega) (fun i hi => ?_) ?_) ?_
  ·unfold i0_
   refine ac_ (by simp; omega) (aa_ (az_ hi) (aa_ (az_ hi) (ab_ (by simp) ?_)))
   rw [am_ (n := (i : Int) + 1) ⟨by omega, by omega⟩]; rfl
  ·unfold i0_
   exact ab_ (by simp) rfl
  ·rw [e]; simp
inductive Res where
 | stop
 | bad (e : Int)
 | got (m : api_Msg) (z : Nat)
noncomputable def one (o : Int) (x : Str) : Res :=
 if x.length < 4 then .stop
 else if (leV (win x 0 4) : Int) > o ∨ leV (win x 0 4) < 7 then .bad 19
 else if x.length < leV (win x 0 4) then .stop
 else match bS_ x 0 with
  | some (m, _, e) => if e = 0 then .got m (leV (win x 0 4)) else .bad e
  | none => .stop
theorem four_lt (x : Str) : leV (win x 0 4) < 4294967296 := by
 have h1 := fV_ (win x 0 4)
 have h2 : (win x 0 4).length ≤ 4 := by simp [win]; omega
 have h3 : 2 ^ (8 * (win x 0 4).length) ≤ 2 ^ 32 := Nat.pow_le_pow_right (by omega) (by omega)
 omega
theorem win_pre (p q : Str) (a w : Nat) (h : a + w ≤ p.length) : win (p ++ q) a w = win p a w := by
 unfold win
 rw [List.drop_append_of_le_length (by omega), List.take_append_of_le_length (by simp; omega)]
theorem oct0 (x : Str) (h : 4 ≤ x.length) (hs : x.length ≤ 1000000) : cU_ x 0 4 = some ((leV (win x 0 4) : Int), 4, 0) := by
 have e := fW_ x 0 4 (by omega) (by omega) (by omega) (by omega)
 have := four_lt x
 rw [if_neg (by omega), if_neg (by omega)] at e
 exact e
theorem get_pre (p q : Str) (h4 : 4 ≤ p.length) (hz : leV (win p 0 4) ≤ p.length) (hs : (p ++ q).length ≤ 1000000) : bS_ (p ++ q) 0 = bS_ p 0 := by
 simp only [List.length_append] at hs
 have e1 := oct0 p h4 (by omega)
 have e2 := oct0 (p ++ q) (by simp; omega) (by simp; omega)
 rw [win_pre p q 0 4 (by omega)] at e2
 generalize leV (win p 0 4) = z at e1 e2 hz
 unfold bS_
 rw [e1, e2]
 simp only [Option.bind_some]
 have el : ∀ n : Nat, n ≤ 1000000 → w64 ((n : Int) - 0) = (n : Int) := fun n hn => by rw [am_ ⟨by omega, by omega⟩]; omega
 have s1 := db_ p 0 z (by omega) (by omega)
 have s2 := db_ (p ++ q) 0 z (by simp; omega) (by simp; omega)
 rw [win_pre p q 0 z (by omega)] at s2
 rw [show ((0 : Nat) : Int) = 0 from rfl] at s1 s2
 rw [el (p ++ q).length (by simp; omega), el p.length (by omega), s1, s2]
 have c1 : decide ((z : Int) > (p.length : Int)) = false := by simp; omega
 have c2 : decide ((z : Int) > ((p ++ q).length : Int)) = false := by simp; omega
 rw [c1, c2]
theorem one_pre (o : Int) (p q : Str) (hs : (p ++ q).length ≤ 1000000) (h : one o p ≠ .stop) : one o (p ++ q) = one o p := by
 unfold one at h ⊢
 by_cases h4 : p.length < 4
 ·rw [if_pos h4] at h; exact absurd rfl h
 ·rw [if_neg h4] at h
  rw [if_neg h4, if_neg (by simp; omega), win_pre p q 0 4 (by omega)]
  by_cases h7 : (leV (win p 0 4) : Int) > o ∨ leV (win p 0 4) < 7
  ·rw [if_pos h7, if_pos h7]
  ·rw [if_neg h7] at h
   rw [if_neg h7, if_neg h7]
   by_cases hz : p.length < leV (win p 0 4)
   ·rw [if_pos hz] at h; exact absurd rfl h
   ·rw [if_neg hz, if_neg (by simp; omega), get_pre p q (by omega) (by omega) hs]
theorem jE_ {o : Int} {x : Str} {m : api_Msg} {z : Nat} (hs : x.length ≤ 1000000) (h : one o x = .got m z) : 7 ≤ z ∧ z ≤ x.length ∧ m.small ∧ bS_ x 0 = some (m, (z : Int), 0) ∧ z = leV (win x 0 4) ∧ 4 ≤ x.length ∧ (z : Int) ≤ o := by
 unfold one at h
 split at h
 ·cases h
 ·split at h
  ·cases h
  ·split at h
   ·cases h
   ·obtain ⟨m', n, e, h1, h2⟩ := nd_ x 0 hs
    rw [h1] at h
    simp only at h
    by_cases he : e = 0
    ·rw [if_pos he] at h
     cases h
     rcases h2 with ⟨h2, _⟩ | ⟨_, A, z', hA, hn, hl, hw, hg⟩
     ·exact absurd he h2
     ·have : A = 0 := by omega
      subst this
      have hz : z' = leV (win x 0 4) := by
       have := hg.2.2.1
       rw [← hw] at this
       rw [← this]
       congr 1
       simp only [win, List.drop_zero, List.take_take]
       congr 1
       have := hg.2.2.2.1
       omega
      refine ⟨by omega, by omega, hg.1, ?_, rfl, by omega, by omega⟩
      rw [h1, he, hn, hz]
      simp
    ·rw [if_neg he] at h; cases h
inductive Spl (o : Int) : Str → List api_Msg → Str → Prop
 | stop {x : Str} : one o x = .stop → Spl o x [] x
 | got {x : Str} {m : api_Msg} {z : Nat} {ms : List api_Msg} {r : Str} : one o x = .got m z → Spl o (x.drop z) ms r → Spl o x (m :: ms) r
theorem Spl.len {o : Int} {x : Str} {ms : List api_Msg} {r : Str} (h : Spl o x ms r) : x.length ≤ 1000000 → 7 * ms.length + r.length ≤ x.length ∧ ∀ m ∈ ms, m.small := by
 induction h with
 | stop _ => exact fun _ => ⟨by simp, fun m hm => by cases hm⟩
 | got h1 _ ih =>
  intro hs
  obtain ⟨a, b, c, _⟩ := jE_ hs h1
  obtain ⟨i1, i2⟩ := ih (by simp; omega)
  simp only [List.length_drop, List.length_cons] at i1 ⊢
  refine ⟨by omega, fun m hm => ?_⟩
  cases hm with
  | head => exact c
  | tail _ hm => exact i2 m hm
theorem Spl.pieces {o : Int} {x : Str} {ms : List api_Msg} {r : Str} (h : Spl o x ms r) : ∀ p q, x = p ++ q → x.length ≤ 1000000 → ∃ ms1 r1 ms2, Spl o p ms1 r1 ∧ Spl o (r1 ++ q) ms2 r ∧ ms = ms1 ++ ms2 := by
 induction h with
 | stop h1 =>
  rename_i x
  intro p q hx hs
  subst hx
  have hp : one o p = .stop := Classical.byContradiction fun hn => hn ((one_pre o p q hs hn).symm.trans h1)
  exact ⟨[], p, [], .stop hp, .stop h1, rfl⟩
 | got h1 h2 ih =>
  rename_i x m z ms r
  intro p q hx hs
  subst hx
  by_cases hp : one o p = .stop
  ·exact ⟨[], p, _, .stop hp, .got h1 h2, rfl⟩
  ·have he := one_pre o p q hs hp
   rw [h1] at he
   simp only [List.length_append] at hs
   obtain ⟨a, b, _⟩ := jE_ (by omega) he.symm
   obtain ⟨ms1, r1, ms2, i1, i2, i3⟩ := ih (p.drop z) q (List.drop_append_of_le_length b) (by simp; omega)
   exact ⟨m :: ms1, r1, ms2, .got he.symm i1, i2, by rw [i3]; rfl⟩
theorem hG_ (o : Int) (x : Str) (acc : List api_Msg) (hs : x.length ≤ 1000000) (ha : acc.length ≤ 1000000) : bR_ o (x, acc) = match one o x with
  | .stop => some (.done (.fall (x, acc)))
  | .bad e => some (.done (.ret ([], [], e)))
  | .got m z => some (.next (x.drop z, acc ++ [m])) := by
 unfold bR_ one
 by_cases h4 : x.length < 4
 ·rw [if_pos h4]; exact ab_ (by simp; omega) rfl
 rw [if_neg h4]
 refine ac_ (by simp; omega) (aa_ (oct0 x (by omega) hs) ?_)
 by_cases h7 : (leV (win x 0 4) : Int) > o ∨ leV (win x 0 4) < 7
 ·rw [if_pos h7]
  exact ac_ (by simp only [Bool.or_eq_true, decide_eq_true_eq, bne_iff_ne]; omega) rfl
 rw [if_neg h7]
 refine ab_ (by simp; omega) ?_
 by_cases hz : x.length < leV (win x 0 4)
 ·rw [if_pos hz]; exact ac_ (by simp; omega) rfl
 rw [if_neg hz]
 refine ab_ (by simp; omega) ?_
 obtain ⟨m, n, e, h1, h2⟩ := nd_ x 0 hs
 refine aa_ h1 ?_
 rw [h1]
 by_cases he : e = 0
 ·simp only [if_pos he]
  refine ab_ (by simpa using he) ?_
  rcases h2 with ⟨h2, _⟩ | ⟨_, A, z', hA, hn, hl, hw, hg⟩
  ·exact absurd he h2
  ·have : A = 0 := by omega
   subst this
   have hz' : z' = leV (win x 0 4) := by
    have := hg.2.2.1
    rw [← hw] at this
    rw [← this]
    congr 1
    simp only [win, List.drop_zero, List.take_take]
    congr 1
    have := hg.2.2.2.1
    omega
   rw [hn]
   refine aa_ (gd_ (by omega) (by omega) (by omega)) (aa_ (bm_ (by simp; omega) (by simp; omega)) ?_)
   simp [hz']
 ·simp only [if_neg he]
  exact ac_ (by simpa using he) rfl
theorem split_run {o : Int} {x : Str} {ms : List api_Msg} {r : Str} (h : Spl o x ms r) : ∀ (fuel : Nat) (acc : List api_Msg), x.length < fuel → acc.length + x.length ≤ 1000000 → an_ (bR_ o) fuel (x, acc) = some (.fall (r, acc ++ ms)) := by
 induction h with
 | stop h1 =>
  rename_i x
  intro fuel acc hf ha
  cases fuel with
  | zero => omega
  | succ fuel =>
   refine ar_ ?_
   rw [hG_ o x acc (by omega) (by omega), h1]
   simp
 | got h1 h2 ih =>
  rename_i x m z ms r
  intro fuel acc hf ha
  obtain ⟨a, b, _⟩ := jE_ (by omega) h1
  cases fuel with
  | zero => omega
  | succ fuel =>
   have := ih fuel (acc ++ [m]) (by simp; omega) (by simp; omega)
   rw [List.append_assoc] at this
   refine ay_ ?_ this
   rw [hG_ o x acc (by omega) (by omega), h1]
theorem split_any (o : Int) : ∀ (k : Nat) (x : Str), x.length < k → x.length ≤ 1000000 → (∃ ms r, Spl o x ms r) ∨ ∀ (fuel : Nat) (acc : List api_Msg), x.length < fuel → acc.length + x.length ≤ 1000000 → ∃ e, an_ (bR_ o) fuel (x, acc) = some (.ret ([], [], e)) ∧ e ≠ 0
 | 0, x, h, _ => by omega
 | k + 1, x, h, hs => by
  cases h1 : one o x with
  | stop => exact .inl ⟨_, _, .stop h1⟩
  | bad e =>
   refine .inr fun fuel acc hf ha => ?_
   cases fuel with
   | zero => omega
   | succ fuel =>
    refine ⟨e, ar_ ?_, ?_⟩
    ·rw [hG_ o x acc (by omega) (by omega), h1]
    ·unfold one at h1
     split at h1
     ·cases h1
     ·split at h1
      ·cases h1; decide
      ·split at h1
       ·cases h1
       ·split at h1
        ·split at h1
         ·cases h1
         ·cases h1; assumption
        ·cases h1
  | got m z =>
   obtain ⟨a, b, _⟩ := jE_ hs h1
   rcases split_any o k (x.drop z) (by simp; omega) (by simp; omega) with ⟨ms, r, h2⟩ | h2
   ·exact .inl ⟨_, _, .got h1 h2⟩
   ·refine .inr fun fuel acc hf ha => ?_
    cases fuel with
    | zero => omega
    | succ fuel =>
     obtain ⟨e, e1, e2⟩ := h2 fuel (acc ++ [m]) (by simp; omega) (by simp; omega)
     refine ⟨e, ay_ ?_ e1, e2⟩
     rw [hG_ o x acc (by omega) (by omega), h1]
def dN_ (n : Int) : Int := if n = 0 ∨ n > 8192 then 8192 else n
theorem cH_ {x : Str} {n : Int} {ms : List api_Msg} {r : Str} (hs : x.length ≤ 1000000) (h : Spl (dN_ n) x ms r) : bw_ x n = some (ms, r, 0) := by
 unfold bw_
 have hB : BIG = 18446744073709551616 := rfl
 refine aa_ (a := dN_ n) ?_ (aa_ (split_run h BIG [] (by omega) (by simp; omega)) rfl)
 unfold dN_
 by_cases hn : n = 0 ∨ n > 8192
 ·rw [if_pos hn]; exact ac_ (by simpa using hn) rfl
 ·rw [if_neg hn]; exact ab_ (by simp only [not_or] at hn; simp; omega) rfl
theorem kE_ (x : Str) (n : Int) (hs : x.length ≤ 1000000) : (∃ ms r, Spl (dN_ n) x ms r) ∨ ∃ e, bw_ x n = some ([], [], e) ∧ e ≠ 0 := by
 have hB : BIG = 18446744073709551616 := rfl
 rcases split_any (dN_ n) (x.length + 1) x (by omega) hs with h | h
 ·exact .inl h
 ·obtain ⟨e, e1, e2⟩ := h BIG [] (by omega) (by simp; omega)
  refine .inr ⟨e, ?_, e2⟩
  unfold bw_
  refine aa_ (a := dN_ n) ?_ (aa_ e1 rfl)
  unfold dN_
  by_cases hn : n = 0 ∨ n > 8192
  ·rw [if_pos hn]; exact ac_ (by simpa using hn) rfl
  ·rw [if_neg hn]; exact ab_ (by simp only [not_or] at hn; simp; omega) rfl
end Go.Proofs.YtolgkhjkdadhiaaGreat
namespace Go.Proofs.YtolgkhjkdadhiaaGreat
open Go.Rt Go.RowKit
def At (y : Str) (a : Nat) (t : Str) : Prop := win y a t.length = t ∧ a + t.length ≤ y.length
theorem At.split {y : Str} {a : Nat} {t u : Str} (h : At y a (t ++ u)) : At y a t ∧ At y (a + t.length) u := by
 obtain ⟨h1, h2⟩ := win_in (v := t ++ u) h.1 rfl rfl
 have h3 := h.2
 rw [List.length_append] at h3
 exact ⟨⟨h1, by omega⟩, ⟨h2, by omega⟩⟩
def rd (y : Str) (a : Nat) : wire_reader := ⟨y, (a : Int), true⟩
theorem eM_ {y t : Str} {a w : Nat} {n : Int} (h1 : 1 ≤ w) (h8 : w ≤ 8) (he : bc_ n w = some t) (hn : n ≤ 9223372036854775807) (h : At y a t) (hs : y.length ≤ 1000000) : al_ (rd y a) (w : Int) = some (n, rd y (a + t.length)) := by
 obtain ⟨e1, k, rfl, e2⟩ := enc_decN h8 he hn h.1 h.2
 have := rnum y a w h1 h8 (by have := h.2; omega) hs
 rw [e2] at this
 rw [e1]
 exact this
theorem btext {y s t : Str} {a : Nat} (he : b6_ s = some t) (h : At y a t) (hs : y.length ≤ 1000000) : aG_ (rd y a) = some (s, rd y (a + t.length)) := by
 have := rtext y a (by have := h.2; omega) hs
 rw [enc_takeT he h.1 h.2] at this
 exact this
theorem gf_ {n : Int} {w : Nat} (h : bx_ n w = true) : bc_ n w = some (leB n w) := by unfold bc_; rw [if_pos h]
theorem bqid {y t : Str} {a : Nat} {q : api_Qid} (he : dL_ q = some t) (hq : q.Path_ ≤ 9223372036854775807 ∧ q.Type_ ≤ 9223372036854775807 ∧ q.Vers_ ≤ 9223372036854775807) (h : At y a t) (hs : y.length ≤ 1000000) : aZ_ (rd y a) = some (q, rd y (a + t.length)) := by
 obtain ⟨f1, f2, f3, rfl⟩ := kz_ he
 obtain ⟨h', h3⟩ := h.split
 obtain ⟨h1, h2⟩ := h'.split
 unfold aZ_
 refine aa_ (eM_ (w := 1) (by omega) (by omega) (gf_ f1) hq.2.1 h1 hs) ?_
 refine aa_ (eM_ (w := 4) (by omega) (by omega) (gf_ f2) hq.2.2 h2 hs) ?_
 rw [List.length_append, ← Nat.add_assoc] at h3
 refine aa_ (eM_ (w := 8) (by omega) (by omega) (gf_ f3) hq.1 h3 hs) ?_
 simp only [List.length_append, Nat.add_assoc]
theorem find_all : (List.range 60).all (fun n => n == 0 || decide (df_ (cv_ (n : Int)) = some ((n : Int), true))) = true := by kernel_rfl
theorem find_self (n : Int) (h1 : 1 ≤ n) (h2 : n ≤ 59) : df_ (cv_ n) = some (n, true) := by
 have := List.all_eq_true.1 find_all n.toNat (by simp; omega)
 have h0 : (n.toNat == 0) = false := by simp; omega
 rw [h0, Bool.false_or, decide_eq_true_eq, show ((n.toNat : Nat) : Int) = n by omega] at this
 exact this
theorem bfault {y t : Str} {a : Nat} {n : Int} (h1 : 1 ≤ n) (h2 : n ≤ 59) (he : b6_ (cv_ n) = some t) (h : At y a t) (hs : y.length ≤ 1000000) : bB_ (rd y a) = some (n, rd y (a + t.length)) := by
 unfold bB_
 exact aa_ (btext he h hs) (aa_ (find_self n h1 h2) rfl)
theorem nz_ (y : Str) (hs : y.length ≤ 1000000) : ∀ (l : List Str) (fuel p : Nat) (acc : List Str) (t : Str), l.length < fuel → acc.length + l.length ≤ 65535 → cn_ b6_ l = some t → At y p t →
  an_ aC_ fuel ((l.length : Int), rd y p, acc) = some (acc ++ l, rd y (p + t.length))
 | [], 0, _, _, _, hf, _, _, _ => absurd hf (Nat.not_lt_zero _)
 | _ :: _, 0, _, _, _, hf, _, _, _ => absurd hf (Nat.not_lt_zero _)
 | [], fuel + 1, p, acc, t, _, _, he, _ => by
  cases he
  refine ar_ ?_
  unfold aC_
  refine ab_ rfl ?_
  simp
 | s :: l, fuel + 1, p, acc, t, hf, hl, he, h => by
  obtain ⟨u, v, e1, e2, rfl⟩ := eS_ he
  obtain ⟨h1, h2⟩ := h.split
  simp only [List.length_cons] at hf hl
  have ih := nz_ y hs l fuel (p + u.length) (acc ++ [s]) v (by omega) (by simp; omega) e2 h2
  rw [List.append_assoc] at ih
  simp only [List.length_append, ← Nat.add_assoc]
  refine ay_ ?_ ih
  unfold aC_
  refine ac_ (by simp [rd]) (aa_ (btext e1 h1 hs) (aa_ (bm_ (by simp; omega) (by simp; omega)) ?_))
  rw [am_ ⟨by simp <;> omega, by simp <;> omega⟩]
  simp
theorem bnames {y t : Str} {a : Nat} {l : List Str} (he : encL b6_ l = some t) (h : At y a t) (hs : y.length ≤ 1000000) : bb_ (rd y a) = some (l, rd y (a + t.length)) := by
 obtain ⟨hl, b, h1, rfl⟩ := dR_ he
 obtain ⟨k1, k2⟩ := h.split
 have hB : BIG = 18446744073709551616 := rfl
 unfold bb_
 refine aa_ (eM_ (w := 2) (by omega) (by omega) (ie_ _ hl) (by omega) k1 hs) (aa_ (nz_ y hs l BIG _ [] b (by omega) (by simp; omega) h1 k2) ?_)
 simp only [List.length_append, ← Nat.add_assoc, List.nil_append]
def qle (q : api_Qid) : Prop := q.Path_ ≤ 9223372036854775807 ∧ q.Type_ ≤ 9223372036854775807 ∧ q.Vers_ ≤ 9223372036854775807
theorem o7_ (y : Str) (hs : y.length ≤ 1000000) : ∀ (l : List api_Qid) (fuel p : Nat) (acc : List api_Qid) (t : Str), (∀ q ∈ l, qle q) → l.length < fuel → acc.length + l.length ≤ 65535 → cn_ dL_ l = some t → At y p t →
  an_ aF_ fuel ((l.length : Int), rd y p, acc) = some (acc ++ l, rd y (p + t.length))
 | [], 0, _, _, _, _, hf, _, _, _ => absurd hf (Nat.not_lt_zero _)
 | _ :: _, 0, _, _, _, _, hf, _, _, _ => absurd hf (Nat.not_lt_zero _)
 | [], fuel + 1, p, acc, t, _, _, _, he, _ => by
  cases he
  refine ar_ ?_
  unfold aF_
  refine ab_ rfl ?_
  simp
 | s :: l, fuel + 1, p, acc, t, hq, hf, hl, he, h => by
  obtain ⟨u, v, e1, e2, rfl⟩ := eS_ he
  obtain ⟨h1, h2⟩ := h.split
  simp only [List.length_cons] at hf hl
  have ih := o7_ y hs l fuel (p + u.length) (acc ++ [s]) v (fun q h => hq q (List.mem_cons_of_mem _ h)) (by omega) (by simp; omega) e2 h2
  rw [List.append_assoc] at ih
  simp only [List.length_append, ← Nat.add_assoc]
  refine ay_ ?_ ih
  unfold aF_
  refine ac_ (by simp [rd]) (aa_ (bqid e1 (hq s List.mem_cons_self) h1 hs) (aa_ (bm_ (by simp; omega) (by simp; omega)) ?_))
  rw [am_ ⟨by simp <;> omega, by simp <;> omega⟩]
  simp
theorem bqids {y t : Str} {a : Nat} {l : List api_Qid} (hq : ∀ q ∈ l, qle q) (he : encL dL_ l = some t) (h : At y a t) (hs : y.length ≤ 1000000) : bk_ (rd y a) = some (l, rd y (a + t.length)) := by
 obtain ⟨hl, b, h1, rfl⟩ := dR_ he
 obtain ⟨k1, k2⟩ := h.split
 have hB : BIG = 18446744073709551616 := rfl
 unfold bk_
 refine aa_ (eM_ (w := 2) (by omega) (by omega) (ie_ _ hl) (by omega) k1 hs) (aa_ (o7_ y hs l BIG _ [] b hq (by omega) (by simp; omega) h1 k2) ?_)
 simp only [List.length_append, ← Nat.add_assoc, List.nil_append]
theorem bdata {y t s : Str} {a w : Nat} (h1 : 1 ≤ w) (h8 : w ≤ 8) (he : encD s w = some t) (h : At y a t) (hs : y.length ≤ 1000000) : aK_ (rd y a) (w : Int) = some (s, rd y (a + t.length)) := by
 obtain ⟨f, rfl⟩ := kA_ he
 obtain ⟨k1, k2, k3⟩ := h.split
 unfold aK_
 have hl : (leB (s.length : Int) w).length = w := ap_ _ _
 refine aa_ (eM_ (w := w) h1 h8 (gf_ f) (by omega) k1 hs) ?_
 rw [hl] at k2 k3
 rw [List.length_append, hl]
 have ew : w64 ((y.length : Int) - ((a + w : Nat) : Int)) = ((y.length - (a + w) : Nat) : Int) := by rw [am_ ⟨by omega, by omega⟩]; omega
 have ex : w64 (((a + w : Nat) : Int) + (s.length : Int)) = ((a + w + s.length : Nat) : Int) := by rw [am_ ⟨by omega, by omega⟩]; omega
 have ey : w64 (((a + w + s.length : Nat) : Int) - (s.length : Int)) = ((a + w : Nat) : Int) := by rw [am_ ⟨by omega, by omega⟩]; omega
 refine ab_ ?_ ?_
 ·show (!true || decide ((s.length : Int) > w64 ((y.length : Int) - ((a + w : Nat) : Int)))) = false
  rw [ew]; simp; omega
 ·show Option.bind (bO_ y (w64 (w64 (((a + w : Nat) : Int) + (s.length : Int)) - (s.length : Int))) (w64 (((a + w : Nat) : Int) + (s.length : Int)))) _ = _
  rw [ex, ey, ← ex]
  refine aa_ (db_ y (a + w) s.length (by omega) (by omega)) ?_
  show some (win y (a + w) s.length, (⟨y, w64 (((a + w : Nat) : Int) + (s.length : Int)), true⟩ : wire_reader)) = _
  rw [ex, k2, Nat.add_assoc]
  rfl
theorem bstat {y t : Str} {a : Nat} {d : api_Dir} (he : encS d = some t) (h : At y a t) (hs : y.length ≤ 1000000) : bl_ (rd y a) = some (d, rd y (a + t.length)) := by
 obtain ⟨f, rfl⟩ := iS_ he
 obtain ⟨l1, l2, l3, l4⟩ := eQ_ d (di_ d f).2
 have hlen := j1_ d
 have hD : encD (bf_ d) 2 = some (leB ((bf_ d).length : Int) 2 ++ bf_ d) := by
  unfold encD
  rw [if_pos]
  unfold bx_
  simp only [Bool.and_eq_true, Bool.or_eq_true, decide_eq_true_eq]
  exact ⟨by omega, .inr (by omega)⟩
 have hg := kU_ (bf_ d) 0 (by omega) (by omega)
 have hp := getR_put [] [] d (kB_ f) f
 simp only [List.nil_append, List.append_nil, List.length_nil, Nat.zero_add] at hp
 rw [hp] at hg
 unfold bl_
 refine aa_ (bdata (w := 2) (by omega) (by omega) hD h hs) (ab_ rfl (aa_ hg ?_))
 simp [rd]
def fine (k : Lt) (m : api_Msg) : Prop := match k with
 | .m => m.Msize_ ≤ 9223372036854775807 | .a => m.AuthFid_ ≤ 9223372036854775807 | .q => qle m.Qid_ | .f => m.Fid_ ≤ 9223372036854775807
 | .e => 1 ≤ m.Err_ ∧ m.Err_ ≤ 59 | .o => m.OldTag_ ≤ 9223372036854775807 | .n => m.NewFid_ ≤ 9223372036854775807
 | .W => ∀ q ∈ m.Qids_, qle q | .M => m.Mode_ ≤ 9223372036854775807 | .i => m.Iounit_ ≤ 9223372036854775807
 | .p => m.Perm_ ≤ 9223372036854775807 | .O => m.Offset_ ≤ 9223372036854775807 | .c => m.Count_ ≤ 9223372036854775807
 | .l => m.Lease_ ≤ 9223372036854775807 | .t => m.Term_ ≤ 9223372036854775807 | _ => True
theorem bfield (k : Lt) (m m0 : api_Msg) {y t : Str} {a : Nat} (he : encF k m = some t) (hf : fine k m) (h : At y a t) (hs : y.length ≤ 1000000) : ah_ (rd y a) m0 (k.byte : Int) = some (rd y (a + t.length), cpF k m m0) := by
 unfold ah_
 cases k with
 | m => exact aa_ (eM_ (w := 4) (by omega) (by omega) he hf h hs) rfl
 | v => exact aa_ (btext he h hs) rfl
 | s => exact aa_ (btext he h hs) rfl
 | a => exact aa_ (eM_ (w := 4) (by omega) (by omega) he hf h hs) rfl
 | u => exact aa_ (btext he h hs) rfl
 | x => exact aa_ (btext he h hs) rfl
 | q => exact aa_ (bqid he hf h hs) rfl
 | f => exact aa_ (eM_ (w := 4) (by omega) (by omega) he hf h hs) rfl
 | e => exact aa_ (bfault hf.1 hf.2 he h hs) rfl
 | o => exact aa_ (eM_ (w := 2) (by omega) (by omega) he hf h hs) rfl
 | n => exact aa_ (eM_ (w := 4) (by omega) (by omega) he hf h hs) rfl
 | w => exact aa_ (bnames he h hs) rfl
 | W => exact aa_ (bqids hf he h hs) rfl
 | M => exact aa_ (eM_ (w := 1) (by omega) (by omega) he hf h hs) rfl
 | i => exact aa_ (eM_ (w := 4) (by omega) (by omega) he hf h hs) rfl
 | N => exact aa_ (btext he h hs) rfl
 | p => exact aa_ (eM_ (w := 4) (by omega) (by omega) he hf h hs) rfl
 | O => exact aa_ (eM_ (w := 8) (by omega) (by omega) he hf h hs) rfl
 | c => exact aa_ (eM_ (w := 4) (by omega) (by omega) he hf h hs) rfl
 | d => exact aa_ (bdata (w := 4) (by omega) (by omega) he h hs) rfl
 | S => exact aa_ (bstat he h hs) rfl
 | l => exact aa_ (eM_ (w := 1) (by omega) (by omega) he hf h hs) rfl
 | t => exact aa_ (eM_ (w := 4) (by omega) (by omega) he hf h hs) rfl
theorem bloop (y : Str) (hs : y.length ≤ 1000000) (L : List Lt) (hL : L.length ≤ 100) (m : api_Msg) : ∀ (l : List Lt) (fuel i a : Nat) (m0 : api_Msg) (t : Str), L.drop i = l → i + l.length = L.length → l.length < fuel → encA l m = some t → (∀ k ∈ l, fine k m) → At y a t →
  an_ (cs_ (dM_ L)) fuel ((i : Int), rd y a, m0) = some (rd y (a + t.length), cps l m m0)
 | [], 0, _, _, _, _, _, _, hf, _, _, _ => absurd hf (Nat.not_lt_zero _)
 | _ :: _, 0, _, _, _, _, _, _, hf, _, _, _ => absurd hf (Nat.not_lt_zero _)
 | [], fuel + 1, i, a, m0, t, hd, hi, _, he, _, _ => by
  cases he
  refine ar_ ?_
  unfold cs_
  simp only [List.length_nil] at hi
  exact ab_ (by rw [e9_]; simp; omega) rfl
 | k :: l, fuel + 1, i, a, m0, t, hd, hi, hf, he, hg, h => by
  simp only [List.length_cons] at hi hf
  have hlt : i < L.length := by omega
  rw [List.drop_eq_getElem_cons hlt] at hd
  simp only [List.cons.injEq] at hd
  obtain ⟨hk, hd⟩ := hd
  rw [kC_] at he
  obtain ⟨u, v, e1, e2, rfl⟩ := fZ_ he
  obtain ⟨h1, h2⟩ := h.split
  have ih := bloop y hs L hL m l fuel (i + 1) (a + u.length) (cpF k m m0) v hd (by omega) (by omega) e2 (fun k' h' => hg k' (List.mem_cons_of_mem _ h')) h2
  simp only [List.length_append, ← Nat.add_assoc]
  refine ay_ ?_ ih
  unfold cs_
  refine ac_ (by rw [e9_]; simp; omega) (aa_ (kD_ L i hlt) ?_)
  rw [hk]
  refine aa_ (bfield k m m0 e1 (hg k List.mem_cons_self) h1 hs) ?_
  rw [am_ (n := (i : Int) + 1) ⟨by omega, by omega⟩]; rfl
end Go.Proofs.YtolgkhjkdadhiaaGreat
namespace Go.Proofs.YtolgkhjkdadhiaaGreat
open Go.Rt Go.RowKit
structure api_Msg.ok (m : api_Msg) : Prop where
 small : m.small
 qids : ∀ q ∈ m.Qids_, q.ok
 qid : m.Qid_.ok
theorem aQ_ {x a b : Int} (h : inR x a b = 0) : a ≤ x ∧ x ≤ b := by
 unfold inR at h
 split at h
 ·assumption
 ·cases h
theorem cw_ {s : Str} {n : Int} (h : aT_ s n = 0) : (s.length : Int) ≤ n := by
 unfold aT_ at h
 split at h
 ·assumption
 ·cases h
theorem f0_ {q : api_Qid} (hq : q.ok) (h : dZ_ q = 0) : qle q ∧ ∃ t, dL_ q = some t := by
 unfold dZ_ at h
 split at h
 ·cases h
 ·rename_i hc
  have hz := ao_ h
  obtain ⟨v1, v2⟩ := aQ_ (x := q.Vers_) (a := 0) (b := 2147483647) (hz _ (by simp))
  obtain ⟨p1, p2⟩ := aQ_ (x := q.Path_) (a := 0) (b := 1099511627776) (hz _ (by simp))
  simp only [Bool.or_eq_true, decide_eq_true_eq, bne_iff_ne, not_or, Decidable.not_not] at hc
  obtain ⟨t1, t2⟩ := hc
  have hT : q.Type_ ≤ 9223372036854775807 := hq.1.2
  have hb : cG_ q.Type_ ((232 : Nat) : Int) = true := by
   have hw := kw_ q.Type_ 232 (by omega) hT
   unfold et_ at hw
   rw [← Option.some.inj hw]
   simp only [Bool.or_eq_true, Bool.and_eq_true, beq_iff_eq, decide_eq_true_eq]
   exact .inr ⟨by omega, t2⟩
  have := ic_ q.Type_ 232 (by omega) hT hb
  unfold dA_ at this
  simp only [Bool.or_eq_true, Bool.and_eq_true, beq_iff_eq, decide_eq_true_eq] at this
  refine ⟨⟨by omega, hT, by omega⟩, ?_⟩
  unfold dL_
  have f1 : bx_ q.Type_ 1 = true := by
   unfold bx_; simp only [Bool.and_eq_true, Bool.or_eq_true, decide_eq_true_eq]; exact ⟨by omega, .inr (by omega)⟩
  have f2 : bx_ q.Vers_ 4 = true := by
   unfold bx_; simp only [Bool.and_eq_true, Bool.or_eq_true, decide_eq_true_eq]; exact ⟨by omega, .inr (by omega)⟩
  have f3 : bx_ q.Path_ 8 = true := by
   unfold bx_; simp only [Bool.and_eq_true, Bool.or_eq_true, decide_eq_true_eq]; exact ⟨by omega, .inl (by omega)⟩
  rw [f1, f2, f3]
  exact ⟨_, rfl⟩
theorem encs_ex {α : Type} {f : α → Option Str} : ∀ {l : List α}, (∀ x ∈ l, ∃ t, f x = some t) → ∃ t, cn_ f l = some t
 | [], _ => ⟨[], rfl⟩
 | x :: l, h => by
  obtain ⟨a, ha⟩ := h x List.mem_cons_self
  obtain ⟨b, hb⟩ := encs_ex (l := l) fun y hy => h y (List.mem_cons_of_mem _ hy)
  unfold cn_
  rw [ha, hb]
  exact ⟨_, rfl⟩
theorem encL_ex {α : Type} {f : α → Option Str} {l : List α} (hl : l.length ≤ 65535) (h : ∀ x ∈ l, ∃ t, f x = some t) : ∃ t, encL f l = some t := by
 obtain ⟨b, hb⟩ := encs_ex h
 unfold encL
 rw [if_pos hl, hb]
 exact ⟨_, rfl⟩
theorem o8_ {s : Str} (h : cb_ s = true) : s.length ≤ 64 := by
 unfold cb_ at h
 simp only [Bool.and_eq_true, decide_eq_true_eq] at h
 exact h.1.1.1.2
theorem okN_zero {s : Str} (h : (if cb_ s then (0 : Int) else 6) = 0) : cb_ s = true := by
 cases e : cb_ s with
 | true => rfl
 | false => rw [e] at h; cases h
theorem d8_ {s : Str} (h : s.length ≤ 65535) : ∃ t, b6_ s = some t := by
 unfold b6_; rw [if_pos h]; exact ⟨_, rfl⟩
theorem be_ {n : Int} {w : Nat} (h0 : 0 ≤ n) (h : n < 2 ^ (8 * w) ∨ 8 ≤ w) : ∃ t, bc_ n w = some t := by
 have : bx_ n w = true := by
  unfold bx_; simp only [Bool.and_eq_true, Bool.or_eq_true, decide_eq_true_eq]; exact ⟨h0, h.symm⟩
 exact ⟨_, gf_ this⟩
theorem namesR_zero {l : List Str} (h : hE_ l = 0) : ∃ t, encL b6_ l = some t := by
 unfold hE_ at h
 split at h
 ·cases h
 ·refine encL_ex (by omega) fun s hs => ?_
  have key : l.findSome? hD_ = none := by
   cases e : l.findSome? hD_ with
   | none => rfl
   | some y =>
    rw [e] at h
    obtain ⟨a, _, ha⟩ := List.exists_of_findSome?_eq_some e
    unfold hD_ at ha
    split at ha
    ·cases ha
    ·cases ha; cases h
  have h1 := iQ_ key s hs
  unfold hD_ at h1
  split at h1
  ·rename_i hc
   rcases hc with rfl | hc
   ·exact d8_ (by decide)
   ·have := o8_ hc
    exact d8_ (by omega)
  ·cases h1
theorem qidsR_zero {l : List api_Qid} (hq : ∀ q ∈ l, q.ok) (h : jt_ l = 0) : (∀ q ∈ l, qle q) ∧ ∃ t, encL dL_ l = some t := by
 unfold jt_ at h
 split at h
 ·cases h
 ·have key : l.findSome? qid1 = none := by
   cases e : l.findSome? qid1 with
   | none => rfl
   | some y =>
    rw [e] at h
    obtain ⟨a, _, ha⟩ := List.exists_of_findSome?_eq_some e
    unfold qid1 ce_ at ha
    split at ha
    ·cases ha
    ·cases ha; exact absurd h ‹_›
  have hz : ∀ q ∈ l, dZ_ q = 0 := fun q hx => by
   have h1 := iQ_ key q hx
   unfold qid1 ce_ at h1
   split at h1
   ·assumption
   ·cases h1
  exact ⟨fun q hx => (f0_ (hq q hx) (hz q hx)).1, encL_ex (by omega) fun q hx => (f0_ (hq q hx) (hz q hx)).2⟩
theorem fault_len (n : Int) (h1 : 1 ≤ n) (h2 : n ≤ 59) : (cv_ n).length ≤ 65535 := by
 have key : (List.range 60).all (fun n => decide ((cv_ (n : Int)).length ≤ 65535)) = true := by kernel_rfl
 have := List.all_eq_true.1 key n.toNat (by simp; omega)
 rw [decide_eq_true_eq, show ((n.toNat : Nat) : Int) = n by omega] at this
 exact this
theorem encD_ex {s : Str} (h : s.length ≤ 65535) : ∃ t, encD s 4 = some t := by
 unfold encD
 rw [if_pos (fits4 _ (by omega))]
 exact ⟨_, rfl⟩
theorem encS_ex {d : api_Dir} (h : bi_ d = 0) : ∃ t, encS d = some t := by
 unfold encS; rw [if_pos h]; exact ⟨_, rfl⟩
def Wr (m : api_Msg) (k : Lt) : Prop := (∃ t, encF k m = some t) ∧ fine k m
theorem encA_ex {m : api_Msg} : ∀ {l : List Lt}, (∀ k ∈ l, Wr m k) → ∃ t, encA l m = some t := fun h => encs_ex fun k hk => (h k hk).1
theorem o9_ (m : api_Msg) (hk : m.Kind_ = 100) (h : m.ok) : ad_ m = some (bJ_ [inR m.Msize_ 0 4294967295, aT_ m.Version_ 64, aT_ m.Session_ 64]) := by
 obtain ⟨_, h2, _, h4, h5⟩ := h.small
 unfold ad_
 rw [hk]
 simp only [Int.reduceBEq, BEq.rfl, cond_true, cond_false, Option.bind_some, bK_, aM_, bE_, bC_, bd_, aR_ _ h2, aS_ _ h4, aL_ _ h5 h5.2.2.2.2.2.2.2.1, aj_ _ (show List.length [_, _] ≤ 1000000 by simp), aj_ _ (show List.length [_, _, _] ≤ 1000000 by simp), aj_ _ (show List.length [_, _, _, _] ≤ 1000000 by simp)]
theorem wr_100 (m : api_Msg) (hk : m.Kind_ = 100) (h : m.ok) (hf : ad_ m = some 0) : ∀ k ∈ ([.m, .v] : List Lt), Wr m k := by
 rw [o9_ m hk h] at hf
 have hz := Option.some.inj hf
 have z0 : inR m.Msize_ 0 4294967295 = 0 := ao_ hz _ (.head _)
 have z1 : aT_ m.Version_ 64 = 0 := ao_ hz _ (.tail _ (.head _))
 have z2 : aT_ m.Session_ 64 = 0 := ao_ hz _ (.tail _ (.tail _ (.head _)))
 have w_m : Wr m .m := by obtain ⟨a, b⟩ := aQ_ z0; exact ⟨be_ (n := m.Msize_) (by omega) (by omega), by show m.Msize_ ≤ _; omega⟩
 have w_v : Wr m .v := by have a := cw_ z1; exact ⟨d8_ (s := m.Version_) (by omega), trivial⟩
 intro k hk
 simp only [List.mem_cons, List.not_mem_nil, or_false] at hk
 rcases hk with rfl | rfl
 ·exact w_m
 ·exact w_v
theorem pa_ (m : api_Msg) (hk : m.Kind_ = 101) (h : m.ok) : ad_ m = some (bJ_ [inR m.Msize_ 0 4294967295, aT_ m.Version_ 64, aT_ m.Session_ 64]) := by
 obtain ⟨_, h2, _, h4, h5⟩ := h.small
 unfold ad_
 rw [hk]
 simp only [Int.reduceBEq, BEq.rfl, cond_true, cond_false, Option.bind_some, bK_, aM_, bE_, bC_, bd_, aR_ _ h2, aS_ _ h4, aL_ _ h5 h5.2.2.2.2.2.2.2.1, aj_ _ (show List.length [_, _] ≤ 1000000 by simp), aj_ _ (show List.length [_, _, _] ≤ 1000000 by simp), aj_ _ (show List.length [_, _, _, _] ≤ 1000000 by simp)]
theorem wr_101 (m : api_Msg) (hk : m.Kind_ = 101) (h : m.ok) (hf : ad_ m = some 0) : ∀ k ∈ ([.m, .v, .s] : List Lt), Wr m k := by
 rw [pa_ m hk h] at hf
 have hz := Option.some.inj hf
 have z0 : inR m.Msize_ 0 4294967295 = 0 := ao_ hz _ (.head _)
 have z1 : aT_ m.Version_ 64 = 0 := ao_ hz _ (.tail _ (.head _))
 have z2 : aT_ m.Session_ 64 = 0 := ao_ hz _ (.tail _ (.tail _ (.head _)))
 have w_m : Wr m .m := by obtain ⟨a, b⟩ := aQ_ z0; exact ⟨be_ (n := m.Msize_) (by omega) (by omega), by show m.Msize_ ≤ _; omega⟩
 have w_v : Wr m .v := by have a := cw_ z1; exact ⟨d8_ (s := m.Version_) (by omega), trivial⟩
 have w_s : Wr m .s := by have a := cw_ z2; exact ⟨d8_ (s := m.Session_) (by omega), trivial⟩
 intro k hk
 simp only [List.mem_cons, List.not_mem_nil, or_false] at hk
 rcases hk with rfl | rfl | rfl
 ·exact w_m
 ·exact w_v
 ·exact w_s
theorem pb_ (m : api_Msg) (hk : m.Kind_ = 102) (h : m.ok) : ad_ m = some (bJ_ [inR m.AuthFid_ 0 4294967294, aT_ m.User_ 32, aT_ m.Attach_ 1024]) := by
 obtain ⟨_, h2, _, h4, h5⟩ := h.small
 unfold ad_
 rw [hk]
 simp only [Int.reduceBEq, BEq.rfl, cond_true, cond_false, Option.bind_some, bK_, aM_, bE_, bC_, bd_, aR_ _ h2, aS_ _ h4, aL_ _ h5 h5.2.2.2.2.2.2.2.1, aj_ _ (show List.length [_, _] ≤ 1000000 by simp), aj_ _ (show List.length [_, _, _] ≤ 1000000 by simp), aj_ _ (show List.length [_, _, _, _] ≤ 1000000 by simp)]
theorem wr_102 (m : api_Msg) (hk : m.Kind_ = 102) (h : m.ok) (hf : ad_ m = some 0) : ∀ k ∈ ([.a, .u, .x] : List Lt), Wr m k := by
 rw [pb_ m hk h] at hf
 have hz := Option.some.inj hf
 have z0 : inR m.AuthFid_ 0 4294967294 = 0 := ao_ hz _ (.head _)
 have z1 : aT_ m.User_ 32 = 0 := ao_ hz _ (.tail _ (.head _))
 have z2 : aT_ m.Attach_ 1024 = 0 := ao_ hz _ (.tail _ (.tail _ (.head _)))
 have w_a : Wr m .a := by obtain ⟨a, b⟩ := aQ_ z0; exact ⟨be_ (n := m.AuthFid_) (by omega) (by omega), by show m.AuthFid_ ≤ _; omega⟩
 have w_u : Wr m .u := by have a := cw_ z1; exact ⟨d8_ (s := m.User_) (by omega), trivial⟩
 have w_x : Wr m .x := by have a := cw_ z2; exact ⟨d8_ (s := m.Attach_) (by omega), trivial⟩
 intro k hk
 simp only [List.mem_cons, List.not_mem_nil, or_false] at hk
 rcases hk with rfl | rfl | rfl
 ·exact w_a
 ·exact w_u
 ·exact w_x
theorem pc_ (m : api_Msg) (hk : m.Kind_ = 103) (h : m.ok) : ad_ m = some (bJ_ [dZ_ m.Qid_, inR m.Iounit_ 0 8192]) := by
 obtain ⟨_, h2, _, h4, h5⟩ := h.small
 unfold ad_
 rw [hk]
 simp only [Int.reduceBEq, BEq.rfl, cond_true, cond_false, Option.bind_some, bK_, aM_, bE_, bC_, bd_, aR_ _ h2, aS_ _ h4, aL_ _ h5 h5.2.2.2.2.2.2.2.1, aj_ _ (show List.length [_, _] ≤ 1000000 by simp), aj_ _ (show List.length [_, _, _] ≤ 1000000 by simp), aj_ _ (show List.length [_, _, _, _] ≤ 1000000 by simp)]
theorem wr_103 (m : api_Msg) (hk : m.Kind_ = 103) (h : m.ok) (hf : ad_ m = some 0) : ∀ k ∈ ([.q] : List Lt), Wr m k := by
 rw [pc_ m hk h] at hf
 have hz := Option.some.inj hf
 have z0 : dZ_ m.Qid_ = 0 := ao_ hz _ (.head _)
 have z1 : inR m.Iounit_ 0 8192 = 0 := ao_ hz _ (.tail _ (.head _))
 have w_q : Wr m .q := by obtain ⟨a, b⟩ := f0_ h.qid z0; exact ⟨b, a⟩
 intro k hk
 simp only [List.mem_cons, List.not_mem_nil, or_false] at hk
 subst hk; exact w_q
theorem pd_ (m : api_Msg) (hk : m.Kind_ = 104) (h : m.ok) : ad_ m = some (bJ_ [inR m.Fid_ 0 4294967294, inR m.AuthFid_ 0 4294967295, aT_ m.User_ 32, aT_ m.Attach_ 1024]) := by
 obtain ⟨_, h2, _, h4, h5⟩ := h.small
 unfold ad_
 rw [hk]
 simp only [Int.reduceBEq, BEq.rfl, cond_true, cond_false, Option.bind_some, bK_, aM_, bE_, bC_, bd_, aR_ _ h2, aS_ _ h4, aL_ _ h5 h5.2.2.2.2.2.2.2.1, aj_ _ (show List.length [_, _] ≤ 1000000 by simp), aj_ _ (show List.length [_, _, _] ≤ 1000000 by simp), aj_ _ (show List.length [_, _, _, _] ≤ 1000000 by simp)]
theorem wr_104 (m : api_Msg) (hk : m.Kind_ = 104) (h : m.ok) (hf : ad_ m = some 0) : ∀ k ∈ ([.f, .a, .u, .x] : List Lt), Wr m k := by
 rw [pd_ m hk h] at hf
 have hz := Option.some.inj hf
 have z0 : inR m.Fid_ 0 4294967294 = 0 := ao_ hz _ (.head _)
 have z1 : inR m.AuthFid_ 0 4294967295 = 0 := ao_ hz _ (.tail _ (.head _))
 have z2 : aT_ m.User_ 32 = 0 := ao_ hz _ (.tail _ (.tail _ (.head _)))
 have z3 : aT_ m.Attach_ 1024 = 0 := ao_ hz _ (.tail _ (.tail _ (.tail _ (.head _))))
 have w_f : Wr m .f := by obtain ⟨a, b⟩ := aQ_ z0; exact ⟨be_ (n := m.Fid_) (by omega) (by omega), by show m.Fid_ ≤ _; omega⟩
 have w_a : Wr m .a := by obtain ⟨a, b⟩ := aQ_ z1; exact ⟨be_ (n := m.AuthFid_) (by omega) (by omega), by show m.AuthFid_ ≤ _; omega⟩
 have w_u : Wr m .u := by have a := cw_ z2; exact ⟨d8_ (s := m.User_) (by omega), trivial⟩
 have w_x : Wr m .x := by have a := cw_ z3; exact ⟨d8_ (s := m.Attach_) (by omega), trivial⟩
 intro k hk
 simp only [List.mem_cons, List.not_mem_nil, or_false] at hk
 rcases hk with rfl | rfl | rfl | rfl
 ·exact w_f
 ·exact w_a
 ·exact w_u
 ·exact w_x
theorem pe_ (m : api_Msg) (hk : m.Kind_ = 105) (h : m.ok) : ad_ m = some (bJ_ [dZ_ m.Qid_, inR m.Iounit_ 0 8192]) := by
 obtain ⟨_, h2, _, h4, h5⟩ := h.small
 unfold ad_
 rw [hk]
 simp only [Int.reduceBEq, BEq.rfl, cond_true, cond_false, Option.bind_some, bK_, aM_, bE_, bC_, bd_, aR_ _ h2, aS_ _ h4, aL_ _ h5 h5.2.2.2.2.2.2.2.1, aj_ _ (show List.length [_, _] ≤ 1000000 by simp), aj_ _ (show List.length [_, _, _] ≤ 1000000 by simp), aj_ _ (show List.length [_, _, _, _] ≤ 1000000 by simp)]
theorem wr_105 (m : api_Msg) (hk : m.Kind_ = 105) (h : m.ok) (hf : ad_ m = some 0) : ∀ k ∈ ([.q] : List Lt), Wr m k := by
 rw [pe_ m hk h] at hf
 have hz := Option.some.inj hf
 have z0 : dZ_ m.Qid_ = 0 := ao_ hz _ (.head _)
 have z1 : inR m.Iounit_ 0 8192 = 0 := ao_ hz _ (.tail _ (.head _))
 have w_q : Wr m .q := by obtain ⟨a, b⟩ := f0_ h.qid z0; exact ⟨b, a⟩
 intro k hk
 simp only [List.mem_cons, List.not_mem_nil, or_false] at hk
 subst hk; exact w_q
theorem pf_ (m : api_Msg) (hk : m.Kind_ = 107) (h : m.ok) : ad_ m = some (inR m.Err_ 1 59) := by
 obtain ⟨_, h2, _, h4, h5⟩ := h.small
 unfold ad_
 rw [hk]
 simp only [Int.reduceBEq, BEq.rfl, cond_true, cond_false, Option.bind_some, bK_, aM_, bE_, bC_, bd_, aR_ _ h2, aS_ _ h4, aL_ _ h5 h5.2.2.2.2.2.2.2.1, aj_ _ (show List.length [_, _] ≤ 1000000 by simp), aj_ _ (show List.length [_, _, _] ≤ 1000000 by simp), aj_ _ (show List.length [_, _, _, _] ≤ 1000000 by simp)]
theorem wr_107 (m : api_Msg) (hk : m.Kind_ = 107) (h : m.ok) (hf : ad_ m = some 0) : ∀ k ∈ ([.e] : List Lt), Wr m k := by
 rw [pf_ m hk h] at hf
 have hz := Option.some.inj hf
 have z0 : inR m.Err_ 1 59 = 0 := hz
 have w_e : Wr m .e := by obtain ⟨a, b⟩ := aQ_ z0; exact ⟨d8_ (s := cv_ m.Err_) (fault_len _ a b), a, b⟩
 intro k hk
 simp only [List.mem_cons, List.not_mem_nil, or_false] at hk
 subst hk; exact w_e
theorem pg_ (m : api_Msg) (hk : m.Kind_ = 108) (h : m.ok) : ad_ m = some (inR m.OldTag_ 0 65534) := by
 obtain ⟨_, h2, _, h4, h5⟩ := h.small
 unfold ad_
 rw [hk]
 simp only [Int.reduceBEq, BEq.rfl, cond_true, cond_false, Option.bind_some, bK_, aM_, bE_, bC_, bd_, aR_ _ h2, aS_ _ h4, aL_ _ h5 h5.2.2.2.2.2.2.2.1, aj_ _ (show List.length [_, _] ≤ 1000000 by simp), aj_ _ (show List.length [_, _, _] ≤ 1000000 by simp), aj_ _ (show List.length [_, _, _, _] ≤ 1000000 by simp)]
theorem wr_108 (m : api_Msg) (hk : m.Kind_ = 108) (h : m.ok) (hf : ad_ m = some 0) : ∀ k ∈ ([.o] : List Lt), Wr m k := by
 rw [pg_ m hk h] at hf
 have hz := Option.some.inj hf
 have z0 : inR m.OldTag_ 0 65534 = 0 := hz
 have w_o : Wr m .o := by obtain ⟨a, b⟩ := aQ_ z0; exact ⟨be_ (n := m.OldTag_) (by omega) (by omega), by show m.OldTag_ ≤ _; omega⟩
 intro k hk
 simp only [List.mem_cons, List.not_mem_nil, or_false] at hk
 subst hk; exact w_o
theorem fields_109 (m : api_Msg) (hk : m.Kind_ = 109) (h : m.ok) : ad_ m = some (inR m.Fid_ 0 4294967294) := by
 obtain ⟨_, h2, _, h4, h5⟩ := h.small
 unfold ad_
 rw [hk]
 simp only [Int.reduceBEq, cond_false, Option.bind_some, bK_, aM_, bE_, bC_, bd_, aR_ _ h2, aS_ _ h4, aL_ _ h5 h5.2.2.2.2.2.2.2.1, aj_ _ (show List.length [_, _] ≤ 1000000 by simp), aj_ _ (show List.length [_, _, _] ≤ 1000000 by simp), aj_ _ (show List.length [_, _, _, _] ≤ 1000000 by simp)]
theorem wr_109 (m : api_Msg) (_ : m.Kind_ = 109) (_ : m.ok) (_ : ad_ m = some 0) : ∀ k ∈ ([] : List Lt), Wr m k := by
 intro k hk; cases hk
theorem ph_ (m : api_Msg) (hk : m.Kind_ = 110) (h : m.ok) : ad_ m = some (bJ_ [inR m.Fid_ 0 4294967294, inR m.NewFid_ 0 4294967294, hE_ m.Names_]) := by
 obtain ⟨_, h2, _, h4, h5⟩ := h.small
 unfold ad_
 rw [hk]
 simp only [Int.reduceBEq, BEq.rfl, cond_true, cond_false, Option.bind_some, bK_, aM_, bE_, bC_, bd_, aR_ _ h2, aS_ _ h4, aL_ _ h5 h5.2.2.2.2.2.2.2.1, aj_ _ (show List.length [_, _] ≤ 1000000 by simp), aj_ _ (show List.length [_, _, _] ≤ 1000000 by simp), aj_ _ (show List.length [_, _, _, _] ≤ 1000000 by simp)]
theorem wr_110 (m : api_Msg) (hk : m.Kind_ = 110) (h : m.ok) (hf : ad_ m = some 0) : ∀ k ∈ ([.f, .n, .w] : List Lt), Wr m k := by
 rw [ph_ m hk h] at hf
 have hz := Option.some.inj hf
 have z0 : inR m.Fid_ 0 4294967294 = 0 := ao_ hz _ (.head _)
 have z1 : inR m.NewFid_ 0 4294967294 = 0 := ao_ hz _ (.tail _ (.head _))
 have z2 : hE_ m.Names_ = 0 := ao_ hz _ (.tail _ (.tail _ (.head _)))
 have w_f : Wr m .f := by obtain ⟨a, b⟩ := aQ_ z0; exact ⟨be_ (n := m.Fid_) (by omega) (by omega), by show m.Fid_ ≤ _; omega⟩
 have w_n : Wr m .n := by obtain ⟨a, b⟩ := aQ_ z1; exact ⟨be_ (n := m.NewFid_) (by omega) (by omega), by show m.NewFid_ ≤ _; omega⟩
 have w_w : Wr m .w := ⟨namesR_zero z2, trivial⟩
 intro k hk
 simp only [List.mem_cons, List.not_mem_nil, or_false] at hk
 rcases hk with rfl | rfl | rfl
 ·exact w_f
 ·exact w_n
 ·exact w_w
theorem pi_ (m : api_Msg) (hk : m.Kind_ = 111) (h : m.ok) : ad_ m = some (jt_ m.Qids_) := by
 obtain ⟨_, h2, _, h4, h5⟩ := h.small
 unfold ad_
 rw [hk]
 simp only [Int.reduceBEq, BEq.rfl, cond_true, cond_false, Option.bind_some, bK_, aM_, bE_, bC_, bd_, aR_ _ h2, aS_ _ h4, aL_ _ h5 h5.2.2.2.2.2.2.2.1, aj_ _ (show List.length [_, _] ≤ 1000000 by simp), aj_ _ (show List.length [_, _, _] ≤ 1000000 by simp), aj_ _ (show List.length [_, _, _, _] ≤ 1000000 by simp)]
theorem wr_111 (m : api_Msg) (hk : m.Kind_ = 111) (h : m.ok) (hf : ad_ m = some 0) : ∀ k ∈ ([.W] : List Lt), Wr m k := by
 rw [pi_ m hk h] at hf
 have hz := Option.some.inj hf
 have z0 : jt_ m.Qids_ = 0 := hz
 have w_W : Wr m .W := by obtain ⟨a, b⟩ := qidsR_zero h.qids z0; exact ⟨b, a⟩
 intro k hk
 simp only [List.mem_cons, List.not_mem_nil, or_false] at hk
 subst hk; exact w_W
theorem pj_ (m : api_Msg) (hk : m.Kind_ = 112) (h : m.ok) : ad_ m = some (bJ_ [inR m.Fid_ 0 4294967294, inR m.Mode_ 0 255]) := by
 obtain ⟨_, h2, _, h4, h5⟩ := h.small
 unfold ad_
 rw [hk]
 simp only [Int.reduceBEq, BEq.rfl, cond_true, cond_false, Option.bind_some, bK_, aM_, bE_, bC_, bd_, aR_ _ h2, aS_ _ h4, aL_ _ h5 h5.2.2.2.2.2.2.2.1, aj_ _ (show List.length [_, _] ≤ 1000000 by simp), aj_ _ (show List.length [_, _, _] ≤ 1000000 by simp), aj_ _ (show List.length [_, _, _, _] ≤ 1000000 by simp)]
theorem wr_112 (m : api_Msg) (hk : m.Kind_ = 112) (h : m.ok) (hf : ad_ m = some 0) : ∀ k ∈ ([.f, .M] : List Lt), Wr m k := by
 rw [pj_ m hk h] at hf
 have hz := Option.some.inj hf
 have z0 : inR m.Fid_ 0 4294967294 = 0 := ao_ hz _ (.head _)
 have z1 : inR m.Mode_ 0 255 = 0 := ao_ hz _ (.tail _ (.head _))
 have w_f : Wr m .f := by obtain ⟨a, b⟩ := aQ_ z0; exact ⟨be_ (n := m.Fid_) (by omega) (by omega), by show m.Fid_ ≤ _; omega⟩
 have w_M : Wr m .M := by obtain ⟨a, b⟩ := aQ_ z1; exact ⟨be_ (n := m.Mode_) (by omega) (by omega), by show m.Mode_ ≤ _; omega⟩
 intro k hk
 simp only [List.mem_cons, List.not_mem_nil, or_false] at hk
 rcases hk with rfl | rfl
 ·exact w_f
 ·exact w_M
theorem pk_ (m : api_Msg) (hk : m.Kind_ = 113) (h : m.ok) : ad_ m = some (bJ_ [dZ_ m.Qid_, inR m.Iounit_ 0 8192]) := by
 obtain ⟨_, h2, _, h4, h5⟩ := h.small
 unfold ad_
 rw [hk]
 simp only [Int.reduceBEq, BEq.rfl, cond_true, cond_false, Option.bind_some, bK_, aM_, bE_, bC_, bd_, aR_ _ h2, aS_ _ h4, aL_ _ h5 h5.2.2.2.2.2.2.2.1, aj_ _ (show List.length [_, _] ≤ 1000000 by simp), aj_ _ (show List.length [_, _, _] ≤ 1000000 by simp), aj_ _ (show List.length [_, _, _, _] ≤ 1000000 by simp)]
theorem wr_113 (m : api_Msg) (hk : m.Kind_ = 113) (h : m.ok) (hf : ad_ m = some 0) : ∀ k ∈ ([.q, .i] : List Lt), Wr m k := by
 rw [pk_ m hk h] at hf
 have hz := Option.some.inj hf
 have z0 : dZ_ m.Qid_ = 0 := ao_ hz _ (.head _)
 have z1 : inR m.Iounit_ 0 8192 = 0 := ao_ hz _ (.tail _ (.head _))
 have w_q : Wr m .q := by obtain ⟨a, b⟩ := f0_ h.qid z0; exact ⟨b, a⟩
 have w_i : Wr m .i := by obtain ⟨a, b⟩ := aQ_ z1; exact ⟨be_ (n := m.Iounit_) (by omega) (by omega), by show m.Iounit_ ≤ _; omega⟩
 intro k hk
 simp only [List.mem_cons, List.not_mem_nil, or_false] at hk
 rcases hk with rfl | rfl
 ·exact w_q
 ·exact w_i
theorem pl_ (m : api_Msg) (hk : m.Kind_ = 114) (h : m.ok) : ad_ m = some (bJ_ [inR m.Fid_ 0 4294967294, (if cb_ m.Name_ then (0 : Int) else 6), inR m.Perm_ 0 4294967295, inR m.Mode_ 0 255]) := by
 obtain ⟨_, h2, _, h4, h5⟩ := h.small
 unfold ad_
 rw [hk]
 simp only [Int.reduceBEq, BEq.rfl, cond_true, cond_false, Option.bind_some, bK_, aM_, bE_, bC_, bd_, aR_ _ h2, aS_ _ h4, aL_ _ h5 h5.2.2.2.2.2.2.2.1, aj_ _ (show List.length [_, _] ≤ 1000000 by simp), aj_ _ (show List.length [_, _, _] ≤ 1000000 by simp), aj_ _ (show List.length [_, _, _, _] ≤ 1000000 by simp)]
theorem wr_114 (m : api_Msg) (hk : m.Kind_ = 114) (h : m.ok) (hf : ad_ m = some 0) : ∀ k ∈ ([.f, .N, .p, .M] : List Lt), Wr m k := by
 rw [pl_ m hk h] at hf
 have hz := Option.some.inj hf
 have z0 : inR m.Fid_ 0 4294967294 = 0 := ao_ hz _ (.head _)
 have z1 : (if cb_ m.Name_ then (0 : Int) else 6) = 0 := ao_ hz _ (.tail _ (.head _))
 have z2 : inR m.Perm_ 0 4294967295 = 0 := ao_ hz _ (.tail _ (.tail _ (.head _)))
 have z3 : inR m.Mode_ 0 255 = 0 := ao_ hz _ (.tail _ (.tail _ (.tail _ (.head _))))
 have w_f : Wr m .f := by obtain ⟨a, b⟩ := aQ_ z0; exact ⟨be_ (n := m.Fid_) (by omega) (by omega), by show m.Fid_ ≤ _; omega⟩
 have w_N : Wr m .N := by have a := o8_ (okN_zero z1); exact ⟨d8_ (s := m.Name_) (by omega), trivial⟩
 have w_p : Wr m .p := by obtain ⟨a, b⟩ := aQ_ z2; exact ⟨be_ (n := m.Perm_) (by omega) (by omega), by show m.Perm_ ≤ _; omega⟩
 have w_M : Wr m .M := by obtain ⟨a, b⟩ := aQ_ z3; exact ⟨be_ (n := m.Mode_) (by omega) (by omega), by show m.Mode_ ≤ _; omega⟩
 intro k hk
 simp only [List.mem_cons, List.not_mem_nil, or_false] at hk
 rcases hk with rfl | rfl | rfl | rfl
 ·exact w_f
 ·exact w_N
 ·exact w_p
 ·exact w_M
theorem pm_ (m : api_Msg) (hk : m.Kind_ = 115) (h : m.ok) : ad_ m = some (bJ_ [dZ_ m.Qid_, inR m.Iounit_ 0 8192]) := by
 obtain ⟨_, h2, _, h4, h5⟩ := h.small
 unfold ad_
 rw [hk]
 simp only [Int.reduceBEq, BEq.rfl, cond_true, cond_false, Option.bind_some, bK_, aM_, bE_, bC_, bd_, aR_ _ h2, aS_ _ h4, aL_ _ h5 h5.2.2.2.2.2.2.2.1, aj_ _ (show List.length [_, _] ≤ 1000000 by simp), aj_ _ (show List.length [_, _, _] ≤ 1000000 by simp), aj_ _ (show List.length [_, _, _, _] ≤ 1000000 by simp)]
theorem wr_115 (m : api_Msg) (hk : m.Kind_ = 115) (h : m.ok) (hf : ad_ m = some 0) : ∀ k ∈ ([.q, .i] : List Lt), Wr m k := by
 rw [pm_ m hk h] at hf
 have hz := Option.some.inj hf
 have z0 : dZ_ m.Qid_ = 0 := ao_ hz _ (.head _)
 have z1 : inR m.Iounit_ 0 8192 = 0 := ao_ hz _ (.tail _ (.head _))
 have w_q : Wr m .q := by obtain ⟨a, b⟩ := f0_ h.qid z0; exact ⟨b, a⟩
 have w_i : Wr m .i := by obtain ⟨a, b⟩ := aQ_ z1; exact ⟨be_ (n := m.Iounit_) (by omega) (by omega), by show m.Iounit_ ≤ _; omega⟩
 intro k hk
 simp only [List.mem_cons, List.not_mem_nil, or_false] at hk
 rcases hk with rfl | rfl
 ·exact w_q
 ·exact w_i
theorem pn_ (m : api_Msg) (hk : m.Kind_ = 116) (h : m.ok) : ad_ m = some (bJ_ [inR m.Fid_ 0 4294967294, inR m.Offset_ 0 9007199254740991, inR m.Count_ 0 8192, aT_ m.Data_ 8168]) := by
 obtain ⟨_, h2, _, h4, h5⟩ := h.small
 unfold ad_
 rw [hk]
 simp only [Int.reduceBEq, BEq.rfl, cond_true, cond_false, Option.bind_some, bK_, aM_, bE_, bC_, bd_, aR_ _ h2, aS_ _ h4, aL_ _ h5 h5.2.2.2.2.2.2.2.1, aj_ _ (show List.length [_, _] ≤ 1000000 by simp), aj_ _ (show List.length [_, _, _] ≤ 1000000 by simp), aj_ _ (show List.length [_, _, _, _] ≤ 1000000 by simp)]
theorem wr_116 (m : api_Msg) (hk : m.Kind_ = 116) (h : m.ok) (hf : ad_ m = some 0) : ∀ k ∈ ([.f, .O, .c] : List Lt), Wr m k := by
 rw [pn_ m hk h] at hf
 have hz := Option.some.inj hf
 have z0 : inR m.Fid_ 0 4294967294 = 0 := ao_ hz _ (.head _)
 have z1 : inR m.Offset_ 0 9007199254740991 = 0 := ao_ hz _ (.tail _ (.head _))
 have z2 : inR m.Count_ 0 8192 = 0 := ao_ hz _ (.tail _ (.tail _ (.head _)))
 have z3 : aT_ m.Data_ 8168 = 0 := ao_ hz _ (.tail _ (.tail _ (.tail _ (.head _))))
 have w_f : Wr m .f := by obtain ⟨a, b⟩ := aQ_ z0; exact ⟨be_ (n := m.Fid_) (by omega) (by omega), by show m.Fid_ ≤ _; omega⟩
 have w_O : Wr m .O := by obtain ⟨a, b⟩ := aQ_ z1; exact ⟨be_ (n := m.Offset_) (by omega) (by omega), by show m.Offset_ ≤ _; omega⟩
 have w_c : Wr m .c := by obtain ⟨a, b⟩ := aQ_ z2; exact ⟨be_ (n := m.Count_) (by omega) (by omega), by show m.Count_ ≤ _; omega⟩
 intro k hk
 simp only [List.mem_cons, List.not_mem_nil, or_false] at hk
 rcases hk with rfl | rfl | rfl
 ·exact w_f
 ·exact w_O
 ·exact w_c
theorem po_ (m : api_Msg) (hk : m.Kind_ = 117) (h : m.ok) : ad_ m = some (bJ_ [inR m.Fid_ 0 4294967294, inR m.Offset_ 0 9007199254740991, inR m.Count_ 0 8192, aT_ m.Data_ 8168]) := by
 obtain ⟨_, h2, _, h4, h5⟩ := h.small
 unfold ad_
 rw [hk]
 simp only [Int.reduceBEq, BEq.rfl, cond_true, cond_false, Option.bind_some, bK_, aM_, bE_, bC_, bd_, aR_ _ h2, aS_ _ h4, aL_ _ h5 h5.2.2.2.2.2.2.2.1, aj_ _ (show List.length [_, _] ≤ 1000000 by simp), aj_ _ (show List.length [_, _, _] ≤ 1000000 by simp), aj_ _ (show List.length [_, _, _, _] ≤ 1000000 by simp)]
theorem wr_117 (m : api_Msg) (hk : m.Kind_ = 117) (h : m.ok) (hf : ad_ m = some 0) : ∀ k ∈ ([.d] : List Lt), Wr m k := by
 rw [po_ m hk h] at hf
 have hz := Option.some.inj hf
 have z0 : inR m.Fid_ 0 4294967294 = 0 := ao_ hz _ (.head _)
 have z1 : inR m.Offset_ 0 9007199254740991 = 0 := ao_ hz _ (.tail _ (.head _))
 have z2 : inR m.Count_ 0 8192 = 0 := ao_ hz _ (.tail _ (.tail _ (.head _)))
 have z3 : aT_ m.Data_ 8168 = 0 := ao_ hz _ (.tail _ (.tail _ (.tail _ (.head _))))
 have w_d : Wr m .d := by have a := cw_ z3; exact ⟨encD_ex (s := m.Data_) (by omega), trivial⟩
 intro k hk
 simp only [List.mem_cons, List.not_mem_nil, or_false] at hk
 subst hk; exact w_d
theorem pp_ (m : api_Msg) (hk : m.Kind_ = 118) (h : m.ok) : ad_ m = some (bJ_ [inR m.Fid_ 0 4294967294, inR m.Offset_ 0 9007199254740991, inR m.Count_ 0 8192, aT_ m.Data_ 8168]) := by
 obtain ⟨_, h2, _, h4, h5⟩ := h.small
 unfold ad_
 rw [hk]
 simp only [Int.reduceBEq, BEq.rfl, cond_true, cond_false, Option.bind_some, bK_, aM_, bE_, bC_, bd_, aR_ _ h2, aS_ _ h4, aL_ _ h5 h5.2.2.2.2.2.2.2.1, aj_ _ (show List.length [_, _] ≤ 1000000 by simp), aj_ _ (show List.length [_, _, _] ≤ 1000000 by simp), aj_ _ (show List.length [_, _, _, _] ≤ 1000000 by simp)]
theorem wr_118 (m : api_Msg) (hk : m.Kind_ = 118) (h : m.ok) (hf : ad_ m = some 0) : ∀ k ∈ ([.f, .O, .d] : List Lt), Wr m k := by
 rw [pp_ m hk h] at hf
 have hz := Option.some.inj hf
 have z0 : inR m.Fid_ 0 4294967294 = 0 := ao_ hz _ (.head _)
 have z1 : inR m.Offset_ 0 9007199254740991 = 0 := ao_ hz _ (.tail _ (.head _))
 have z2 : inR m.Count_ 0 8192 = 0 := ao_ hz _ (.tail _ (.tail _ (.head _)))
 have z3 : aT_ m.Data_ 8168 = 0 := ao_ hz _ (.tail _ (.tail _ (.tail _ (.head _))))
 have w_f : Wr m .f := by obtain ⟨a, b⟩ := aQ_ z0; exact ⟨be_ (n := m.Fid_) (by omega) (by omega), by show m.Fid_ ≤ _; omega⟩
 have w_O : Wr m .O := by obtain ⟨a, b⟩ := aQ_ z1; exact ⟨be_ (n := m.Offset_) (by omega) (by omega), by show m.Offset_ ≤ _; omega⟩
 have w_d : Wr m .d := by have a := cw_ z3; exact ⟨encD_ex (s := m.Data_) (by omega), trivial⟩
 intro k hk
 simp only [List.mem_cons, List.not_mem_nil, or_false] at hk
 rcases hk with rfl | rfl | rfl
 ·exact w_f
 ·exact w_O
 ·exact w_d
theorem pq_ (m : api_Msg) (hk : m.Kind_ = 119) (h : m.ok) : ad_ m = some (bJ_ [inR m.Fid_ 0 4294967294, inR m.Offset_ 0 9007199254740991, inR m.Count_ 0 8192, aT_ m.Data_ 8168]) := by
 obtain ⟨_, h2, _, h4, h5⟩ := h.small
 unfold ad_
 rw [hk]
 simp only [Int.reduceBEq, BEq.rfl, cond_true, cond_false, Option.bind_some, bK_, aM_, bE_, bC_, bd_, aR_ _ h2, aS_ _ h4, aL_ _ h5 h5.2.2.2.2.2.2.2.1, aj_ _ (show List.length [_, _] ≤ 1000000 by simp), aj_ _ (show List.length [_, _, _] ≤ 1000000 by simp), aj_ _ (show List.length [_, _, _, _] ≤ 1000000 by simp)]
theorem wr_119 (m : api_Msg) (hk : m.Kind_ = 119) (h : m.ok) (hf : ad_ m = some 0) : ∀ k ∈ ([.c] : List Lt), Wr m k := by
 rw [pq_ m hk h] at hf
 have hz := Option.some.inj hf
 have z0 : inR m.Fid_ 0 4294967294 = 0 := ao_ hz _ (.head _)
 have z1 : inR m.Offset_ 0 9007199254740991 = 0 := ao_ hz _ (.tail _ (.head _))
 have z2 : inR m.Count_ 0 8192 = 0 := ao_ hz _ (.tail _ (.tail _ (.head _)))
 have z3 : aT_ m.Data_ 8168 = 0 := ao_ hz _ (.tail _ (.tail _ (.tail _ (.head _))))
 have w_c : Wr m .c := by obtain ⟨a, b⟩ := aQ_ z2; exact ⟨be_ (n := m.Count_) (by omega) (by omega), by show m.Count_ ≤ _; omega⟩
 intro k hk
 simp only [List.mem_cons, List.not_mem_nil, or_false] at hk
 subst hk; exact w_c
theorem pr_ (m : api_Msg) (hk : m.Kind_ = 120) (h : m.ok) : ad_ m = some (inR m.Fid_ 0 4294967294) := by
 obtain ⟨_, h2, _, h4, h5⟩ := h.small
 unfold ad_
 rw [hk]
 simp only [Int.reduceBEq, cond_false, Option.bind_some, bK_, aM_, bE_, bC_, bd_, aR_ _ h2, aS_ _ h4, aL_ _ h5 h5.2.2.2.2.2.2.2.1, aj_ _ (show List.length [_, _] ≤ 1000000 by simp), aj_ _ (show List.length [_, _, _] ≤ 1000000 by simp), aj_ _ (show List.length [_, _, _, _] ≤ 1000000 by simp)]
theorem wr_120 (m : api_Msg) (hk : m.Kind_ = 120) (h : m.ok) (hf : ad_ m = some 0) : ∀ k ∈ ([.f] : List Lt), Wr m k := by
 rw [pr_ m hk h] at hf
 have hz := Option.some.inj hf
 have z0 : inR m.Fid_ 0 4294967294 = 0 := hz
 have w_f : Wr m .f := by obtain ⟨a, b⟩ := aQ_ z0; exact ⟨be_ (n := m.Fid_) (by omega) (by omega), by show m.Fid_ ≤ _; omega⟩
 intro k hk
 simp only [List.mem_cons, List.not_mem_nil, or_false] at hk
 subst hk; exact w_f
theorem fields_121 (m : api_Msg) (hk : m.Kind_ = 121) (h : m.ok) : ad_ m = some (inR m.Fid_ 0 4294967294) := by
 obtain ⟨_, h2, _, h4, h5⟩ := h.small
 unfold ad_
 rw [hk]
 simp only [Int.reduceBEq, cond_false, Option.bind_some, bK_, aM_, bE_, bC_, bd_, aR_ _ h2, aS_ _ h4, aL_ _ h5 h5.2.2.2.2.2.2.2.1, aj_ _ (show List.length [_, _] ≤ 1000000 by simp), aj_ _ (show List.length [_, _, _] ≤ 1000000 by simp), aj_ _ (show List.length [_, _, _, _] ≤ 1000000 by simp)]
theorem wr_121 (m : api_Msg) (_ : m.Kind_ = 121) (_ : m.ok) (_ : ad_ m = some 0) : ∀ k ∈ ([] : List Lt), Wr m k := by
 intro k hk; cases hk
theorem ps_ (m : api_Msg) (hk : m.Kind_ = 122) (h : m.ok) : ad_ m = some (inR m.Fid_ 0 4294967294) := by
 obtain ⟨_, h2, _, h4, h5⟩ := h.small
 unfold ad_
 rw [hk]
 simp only [Int.reduceBEq, cond_false, Option.bind_some, bK_, aM_, bE_, bC_, bd_, aR_ _ h2, aS_ _ h4, aL_ _ h5 h5.2.2.2.2.2.2.2.1, aj_ _ (show List.length [_, _] ≤ 1000000 by simp), aj_ _ (show List.length [_, _, _] ≤ 1000000 by simp), aj_ _ (show List.length [_, _, _, _] ≤ 1000000 by simp)]
theorem wr_122 (m : api_Msg) (hk : m.Kind_ = 122) (h : m.ok) (hf : ad_ m = some 0) : ∀ k ∈ ([.f] : List Lt), Wr m k := by
 rw [ps_ m hk h] at hf
 have hz := Option.some.inj hf
 have z0 : inR m.Fid_ 0 4294967294 = 0 := hz
 have w_f : Wr m .f := by obtain ⟨a, b⟩ := aQ_ z0; exact ⟨be_ (n := m.Fid_) (by omega) (by omega), by show m.Fid_ ≤ _; omega⟩
 intro k hk
 simp only [List.mem_cons, List.not_mem_nil, or_false] at hk
 subst hk; exact w_f
theorem fields_123 (m : api_Msg) (hk : m.Kind_ = 123) (h : m.ok) : ad_ m = some (inR m.Fid_ 0 4294967294) := by
 obtain ⟨_, h2, _, h4, h5⟩ := h.small
 unfold ad_
 rw [hk]
 simp only [Int.reduceBEq, cond_false, Option.bind_some, bK_, aM_, bE_, bC_, bd_, aR_ _ h2, aS_ _ h4, aL_ _ h5 h5.2.2.2.2.2.2.2.1, aj_ _ (show List.length [_, _] ≤ 1000000 by simp), aj_ _ (show List.length [_, _, _] ≤ 1000000 by simp), aj_ _ (show List.length [_, _, _, _] ≤ 1000000 by simp)]
theorem wr_123 (m : api_Msg) (_ : m.Kind_ = 123) (_ : m.ok) (_ : ad_ m = some 0) : ∀ k ∈ ([] : List Lt), Wr m k := by
 intro k hk; cases hk
theorem pt_ (m : api_Msg) (hk : m.Kind_ = 124) (h : m.ok) : ad_ m = some (inR m.Fid_ 0 4294967294) := by
 obtain ⟨_, h2, _, h4, h5⟩ := h.small
 unfold ad_
 rw [hk]
 simp only [Int.reduceBEq, cond_false, Option.bind_some, bK_, aM_, bE_, bC_, bd_, aR_ _ h2, aS_ _ h4, aL_ _ h5 h5.2.2.2.2.2.2.2.1, aj_ _ (show List.length [_, _] ≤ 1000000 by simp), aj_ _ (show List.length [_, _, _] ≤ 1000000 by simp), aj_ _ (show List.length [_, _, _, _] ≤ 1000000 by simp)]
theorem wr_124 (m : api_Msg) (hk : m.Kind_ = 124) (h : m.ok) (hf : ad_ m = some 0) : ∀ k ∈ ([.f] : List Lt), Wr m k := by
 rw [pt_ m hk h] at hf
 have hz := Option.some.inj hf
 have z0 : inR m.Fid_ 0 4294967294 = 0 := hz
 have w_f : Wr m .f := by obtain ⟨a, b⟩ := aQ_ z0; exact ⟨be_ (n := m.Fid_) (by omega) (by omega), by show m.Fid_ ≤ _; omega⟩
 intro k hk
 simp only [List.mem_cons, List.not_mem_nil, or_false] at hk
 subst hk; exact w_f
theorem pu_ (m : api_Msg) (hk : m.Kind_ = 125) (h : m.ok) : ad_ m = some (bJ_ [inR m.Fid_ 0 4294967294, bi_ m.Stat_]) := by
 obtain ⟨_, h2, _, h4, h5⟩ := h.small
 unfold ad_
 rw [hk]
 simp only [Int.reduceBEq, BEq.rfl, cond_true, cond_false, Option.bind_some, bK_, aM_, bE_, bC_, bd_, aR_ _ h2, aS_ _ h4, aL_ _ h5 h5.2.2.2.2.2.2.2.1, aj_ _ (show List.length [_, _] ≤ 1000000 by simp), aj_ _ (show List.length [_, _, _] ≤ 1000000 by simp), aj_ _ (show List.length [_, _, _, _] ≤ 1000000 by simp)]
theorem wr_125 (m : api_Msg) (hk : m.Kind_ = 125) (h : m.ok) (hf : ad_ m = some 0) : ∀ k ∈ ([.S] : List Lt), Wr m k := by
 rw [pu_ m hk h] at hf
 have hz := Option.some.inj hf
 have z0 : inR m.Fid_ 0 4294967294 = 0 := ao_ hz _ (.head _)
 have z1 : bi_ m.Stat_ = 0 := ao_ hz _ (.tail _ (.head _))
 have w_S : Wr m .S := ⟨encS_ex z1, trivial⟩
 intro k hk
 simp only [List.mem_cons, List.not_mem_nil, or_false] at hk
 subst hk; exact w_S
theorem pv_ (m : api_Msg) (hk : m.Kind_ = 126) (h : m.ok) : ad_ m = some (bJ_ [inR m.Fid_ 0 4294967294, bi_ m.Stat_]) := by
 obtain ⟨_, h2, _, h4, h5⟩ := h.small
 unfold ad_
 rw [hk]
 simp only [Int.reduceBEq, BEq.rfl, cond_true, cond_false, Option.bind_some, bK_, aM_, bE_, bC_, bd_, aR_ _ h2, aS_ _ h4, aL_ _ h5 h5.2.2.2.2.2.2.2.1, aj_ _ (show List.length [_, _] ≤ 1000000 by simp), aj_ _ (show List.length [_, _, _] ≤ 1000000 by simp), aj_ _ (show List.length [_, _, _, _] ≤ 1000000 by simp)]
theorem wr_126 (m : api_Msg) (hk : m.Kind_ = 126) (h : m.ok) (hf : ad_ m = some 0) : ∀ k ∈ ([.f, .S] : List Lt), Wr m k := by
 rw [pv_ m hk h] at hf
 have hz := Option.some.inj hf
 have z0 : inR m.Fid_ 0 4294967294 = 0 := ao_ hz _ (.head _)
 have z1 : bi_ m.Stat_ = 0 := ao_ hz _ (.tail _ (.head _))
 have w_f : Wr m .f := by obtain ⟨a, b⟩ := aQ_ z0; exact ⟨be_ (n := m.Fid_) (by omega) (by omega), by show m.Fid_ ≤ _; omega⟩
 have w_S : Wr m .S := ⟨encS_ex z1, trivial⟩
 intro k hk
 simp only [List.mem_cons, List.not_mem_nil, or_false] at hk
 rcases hk with rfl | rfl
 ·exact w_f
 ·exact w_S
theorem fields_127 (m : api_Msg) (hk : m.Kind_ = 127) (h : m.ok) : ad_ m = some (inR m.Fid_ 0 4294967294) := by
 obtain ⟨_, h2, _, h4, h5⟩ := h.small
 unfold ad_
 rw [hk]
 simp only [Int.reduceBEq, cond_false, Option.bind_some, bK_, aM_, bE_, bC_, bd_, aR_ _ h2, aS_ _ h4, aL_ _ h5 h5.2.2.2.2.2.2.2.1, aj_ _ (show List.length [_, _] ≤ 1000000 by simp), aj_ _ (show List.length [_, _, _] ≤ 1000000 by simp), aj_ _ (show List.length [_, _, _, _] ≤ 1000000 by simp)]
theorem wr_127 (m : api_Msg) (_ : m.Kind_ = 127) (_ : m.ok) (_ : ad_ m = some 0) : ∀ k ∈ ([] : List Lt), Wr m k := by
 intro k hk; cases hk
theorem pw_ (m : api_Msg) (hk : m.Kind_ = 128) (h : m.ok) : ad_ m = some (bJ_ [inR m.Fid_ 0 4294967294, dZ_ m.Qid_, inR m.Lease_ 0 2, inR m.Term_ 0 1048576]) := by
 obtain ⟨_, h2, _, h4, h5⟩ := h.small
 unfold ad_
 rw [hk]
 simp only [Int.reduceBEq, BEq.rfl, cond_true, cond_false, Option.bind_some, bK_, aM_, bE_, bC_, bd_, aR_ _ h2, aS_ _ h4, aL_ _ h5 h5.2.2.2.2.2.2.2.1, aj_ _ (show List.length [_, _] ≤ 1000000 by simp), aj_ _ (show List.length [_, _, _] ≤ 1000000 by simp), aj_ _ (show List.length [_, _, _, _] ≤ 1000000 by simp)]
theorem wr_128 (m : api_Msg) (hk : m.Kind_ = 128) (h : m.ok) (hf : ad_ m = some 0) : ∀ k ∈ ([.f, .l, .t] : List Lt), Wr m k := by
 rw [pw_ m hk h] at hf
 have hz := Option.some.inj hf
 have z0 : inR m.Fid_ 0 4294967294 = 0 := ao_ hz _ (.head _)
 have z1 : dZ_ m.Qid_ = 0 := ao_ hz _ (.tail _ (.head _))
 have z2 : inR m.Lease_ 0 2 = 0 := ao_ hz _ (.tail _ (.tail _ (.head _)))
 have z3 : inR m.Term_ 0 1048576 = 0 := ao_ hz _ (.tail _ (.tail _ (.tail _ (.head _))))
 have w_f : Wr m .f := by obtain ⟨a, b⟩ := aQ_ z0; exact ⟨be_ (n := m.Fid_) (by omega) (by omega), by show m.Fid_ ≤ _; omega⟩
 have w_l : Wr m .l := by obtain ⟨a, b⟩ := aQ_ z2; exact ⟨be_ (n := m.Lease_) (by omega) (by omega), by show m.Lease_ ≤ _; omega⟩
 have w_t : Wr m .t := by obtain ⟨a, b⟩ := aQ_ z3; exact ⟨be_ (n := m.Term_) (by omega) (by omega), by show m.Term_ ≤ _; omega⟩
 intro k hk
 simp only [List.mem_cons, List.not_mem_nil, or_false] at hk
 rcases hk with rfl | rfl | rfl
 ·exact w_f
 ·exact w_l
 ·exact w_t
theorem px_ (m : api_Msg) (hk : m.Kind_ = 129) (h : m.ok) : ad_ m = some (bJ_ [inR m.Fid_ 0 4294967294, dZ_ m.Qid_, inR m.Lease_ 0 2, inR m.Term_ 0 1048576]) := by
 obtain ⟨_, h2, _, h4, h5⟩ := h.small
 unfold ad_
 rw [hk]
 simp only [Int.reduceBEq, BEq.rfl, cond_true, cond_false, Option.bind_some, bK_, aM_, bE_, bC_, bd_, aR_ _ h2, aS_ _ h4, aL_ _ h5 h5.2.2.2.2.2.2.2.1, aj_ _ (show List.length [_, _] ≤ 1000000 by simp), aj_ _ (show List.length [_, _, _] ≤ 1000000 by simp), aj_ _ (show List.length [_, _, _, _] ≤ 1000000 by simp)]
theorem wr_129 (m : api_Msg) (hk : m.Kind_ = 129) (h : m.ok) (hf : ad_ m = some 0) : ∀ k ∈ ([.q, .l, .t] : List Lt), Wr m k := by
 rw [px_ m hk h] at hf
 have hz := Option.some.inj hf
 have z0 : inR m.Fid_ 0 4294967294 = 0 := ao_ hz _ (.head _)
 have z1 : dZ_ m.Qid_ = 0 := ao_ hz _ (.tail _ (.head _))
 have z2 : inR m.Lease_ 0 2 = 0 := ao_ hz _ (.tail _ (.tail _ (.head _)))
 have z3 : inR m.Term_ 0 1048576 = 0 := ao_ hz _ (.tail _ (.tail _ (.tail _ (.head _))))
 have w_q : Wr m .q := by obtain ⟨a, b⟩ := f0_ h.qid z1; exact ⟨b, a⟩
 have w_l : Wr m .l := by obtain ⟨a, b⟩ := aQ_ z2; exact ⟨be_ (n := m.Lease_) (by omega) (by omega), by show m.Lease_ ≤ _; omega⟩
 have w_t : Wr m .t := by obtain ⟨a, b⟩ := aQ_ z3; exact ⟨be_ (n := m.Term_) (by omega) (by omega), by show m.Term_ ≤ _; omega⟩
 intro k hk
 simp only [List.mem_cons, List.not_mem_nil, or_false] at hk
 rcases hk with rfl | rfl | rfl
 ·exact w_q
 ·exact w_l
 ·exact w_t
theorem py_ (m : api_Msg) (hk : m.Kind_ = 130) (h : m.ok) : ad_ m = some (aT_ m.Session_ 64) := by
 obtain ⟨_, h2, _, h4, h5⟩ := h.small
 unfold ad_
 rw [hk]
 simp only [Int.reduceBEq, BEq.rfl, cond_true, cond_false, Option.bind_some, bK_, aM_, bE_, bC_, bd_, aR_ _ h2, aS_ _ h4, aL_ _ h5 h5.2.2.2.2.2.2.2.1, aj_ _ (show List.length [_, _] ≤ 1000000 by simp), aj_ _ (show List.length [_, _, _] ≤ 1000000 by simp), aj_ _ (show List.length [_, _, _, _] ≤ 1000000 by simp)]
theorem wr_130 (m : api_Msg) (hk : m.Kind_ = 130) (h : m.ok) (hf : ad_ m = some 0) : ∀ k ∈ ([.s] : List Lt), Wr m k := by
 rw [py_ m hk h] at hf
 have hz := Option.some.inj hf
 have z0 : aT_ m.Session_ 64 = 0 := hz
 have w_s : Wr m .s := by have a := cw_ z0; exact ⟨d8_ (s := m.Session_) (by omega), trivial⟩
 intro k hk
 simp only [List.mem_cons, List.not_mem_nil, or_false] at hk
 subst hk; exact w_s
theorem fields_131 (m : api_Msg) (hk : m.Kind_ = 131) (h : m.ok) : ad_ m = some (inR m.Fid_ 0 4294967294) := by
 obtain ⟨_, h2, _, h4, h5⟩ := h.small
 unfold ad_
 rw [hk]
 simp only [Int.reduceBEq, cond_false, Option.bind_some, bK_, aM_, bE_, bC_, bd_, aR_ _ h2, aS_ _ h4, aL_ _ h5 h5.2.2.2.2.2.2.2.1, aj_ _ (show List.length [_, _] ≤ 1000000 by simp), aj_ _ (show List.length [_, _, _] ≤ 1000000 by simp), aj_ _ (show List.length [_, _, _, _] ≤ 1000000 by simp)]
theorem wr_131 (m : api_Msg) (_ : m.Kind_ = 131) (_ : m.ok) (_ : ad_ m = some 0) : ∀ k ∈ ([] : List Lt), Wr m k := by
 intro k hk; cases hk
end Go.Proofs.YtolgkhjkdadhiaaGreat
namespace Go.Proofs.YtolgkhjkdadhiaaGreat
open Go.Rt Go.RowKit
theorem ref_loop (s : Str) (h : s.length ≤ 9223372036854775807) : an_ (k9_ s) BIG 0 = some (if s.all iN_ then .fall () else .ret false) := path_loop s h
theorem j4_ (s : Str) (h : s.length ≤ 9223372036854775807) : fp_ s = some (cb_ s) := by
 unfold fp_ cb_
 rw [ref_loop s h]
 simp only [Option.bind_some]
 have e1 : decide ((s.length : Int) ≥ 1) = decide (1 ≤ s.length) := by
  rw [Bool.eq_iff_iff]; simp only [decide_eq_true_eq]; omega
 have e2 : decide ((s.length : Int) ≤ 64) = decide (s.length ≤ 64) := by
  rw [Bool.eq_iff_iff]; simp only [decide_eq_true_eq]; omega
 rw [e1, e2]
 simp only [bne]
 cases decide (1 ≤ s.length) <;> cases decide (s.length ≤ 64) <;> cases (s == [46]) <;> cases (s == [46, 46]) <;> cases s.all iN_ <;> simp
theorem refnums_eq (x : api_Dir) : gF_ x = some (cc_ x) := by
 unfold gF_ ku_ e1_ cc_ dA_ cG_
 simp only [Option.bind_some]
 generalize ((x.Type_ == -1) || (decide (x.Type_ ≥ 0) && decide (x.Type_ ≤ 65534))) = a1
 generalize ((x.Dev_ == -1) || (decide (x.Dev_ ≥ 0) && decide (x.Dev_ ≤ 4294967294))) = a2
 generalize ((x.Qid_.Type_ == -1) || (decide (x.Qid_.Type_ ≥ 0) && (andI .i64 x.Qid_.Type_ 232 == x.Qid_.Type_))) = a3
 generalize ((x.Qid_.Vers_ == -1) || (decide (x.Qid_.Vers_ ≥ 0) && decide (x.Qid_.Vers_ ≤ 2147483647))) = a4
 generalize ((x.Qid_.Path_ == -1) || (decide (x.Qid_.Path_ ≥ 0) && decide (x.Qid_.Path_ ≤ 1099511627776))) = a5
 generalize ((x.Mode_ == -1) || (decide (x.Mode_ ≥ 0) && (andI .i64 x.Mode_ 3892314623 == x.Mode_))) = a6
 generalize ((x.Atime_ == -1) || (decide (x.Atime_ ≥ 0) && decide (x.Atime_ ≤ 1099511627776))) = a7
 generalize ((x.Mtime_ == -1) || (decide (x.Mtime_ ≥ 0) && decide (x.Mtime_ ≤ 1099511627776))) = a8
 generalize ((x.Length_ == -1) || (decide (x.Length_ ≥ 0) && decide (x.Length_ ≤ 9007199254740991))) = a9
 cases a1 <;> cases a2 <;> cases a3 <;> cases a4 <;> cases a5 <;> cases a6 <;> cases a7 <;> cases a8 <;> cases a9 <;> rfl
theorem kW_ (x : api_Dir) (hn : x.Name_.length ≤ 9223372036854775807) : fq_ x = some (bi_ x) := by
 unfold fq_ bi_
 rw [refnums_eq, j4_ _ hn]
 simp only [Option.bind_some]
 have em : ∀ n : Nat, decide ((n : Int) > 64) = !decide (n ≤ 64) := fun n => by
  rw [Bool.eq_iff_iff]
  simp only [Bool.not_eq_true', decide_eq_true_eq, decide_eq_false_iff_not]
  omega
 rw [em, em, em]
 unfold id_
 cases cc_ x <;> cases (x.Name_ == []) <;> cases (x.Name_ == [47]) <;> cases cb_ x.Name_ <;> cases decide (x.Uid_.length ≤ 64) <;> cases decide (x.Gid_.length ≤ 64) <;> cases decide (x.Muid_.length ≤ 64) <;> simp
theorem iT_ (n : Int) (w : Nat) (hw : w ≤ 8) : bh_ n (w : Int) = some (leB n w) := by
 have hB : BIG = 18446744073709551616 := rfl
 unfold bh_
 have h := fU_ (body := fG_ (w : Int) n) (fun i => (leB n i, (i : Int))) w (by omega) (b := leB n w) (fun i hi => ?_) ?_
 ·have e : leB n 0 = [] := rfl
  simp only [e] at h
  rw [show ((0 : Nat) : Int) = 0 from rfl] at h
  rw [h]; rfl
 ·unfold fG_
  have h1 : decide ((i : Int) < (w : Int)) = true := by simp; omega
  simp only [h1, cond_true]
  rw [nX_ n i (by omega)]
  simp only [Option.bind_some]
  rw [c4_ (by rw [ap_]; simp [b8_]; omega)]
  simp only [Option.bind_some]
  rw [am_ (n := (i : Int) + 1) ⟨by omega, by omega⟩, wu8, nW_]
  rfl
 ·unfold fG_
  have h1 : decide ((w : Int) < (w : Int)) = false := by simp
  simp only [h1, cond_false]
theorem jv_ (s : Str) (h : s.length ≤ 100000) : dy_ s = some (bp_ s) := by
 unfold dy_
 have h2 := iT_ (s.length : Int) 2 (by omega)
 rw [show ((2 : Nat) : Int) = 2 from rfl] at h2
 rw [h2]
 simp only [Option.bind_some]
 rw [c4_ (by rw [ap_]; omega)]
 rfl
theorem lit1 (n : Int) : bh_ n 1 = some (leB n 1) := by
 have h := iT_ n 1 (by omega)
 rwa [show ((1 : Nat) : Int) = 1 from rfl] at h
theorem lit2 (n : Int) : bh_ n 2 = some (leB n 2) := by
 have h := iT_ n 2 (by omega)
 rwa [show ((2 : Nat) : Int) = 2 from rfl] at h
theorem lit4 (n : Int) : bh_ n 4 = some (leB n 4) := by
 have h := iT_ n 4 (by omega)
 rwa [show ((4 : Nat) : Int) = 4 from rfl] at h
theorem lit8 (n : Int) : bh_ n 8 = some (leB n 8) := by
 have h := iT_ n 8 (by omega)
 rwa [show ((8 : Nat) : Int) = 8 from rfl] at h
theorem ref_put_eq (x : api_Dir) (hn : x.Name_.length ≤ 9223372036854775807) : kv_ x = some (putR x) := by
 unfold kv_ putR
 refine aa_ (kW_ x hn) ?_
 by_cases hc : bi_ x = 0
 ·obtain ⟨hN, hT⟩ := di_ x hc
  have htl := eQ_ x hT
  have c : (bi_ x != 0) = false := by simp [hc]
  rw [if_pos hc]
  refine ab_ c ?_
  have l1 := lit1
  have l2 := lit2
  have l4 := lit4
  have l8 := lit8
  have hcat : ∀ a b : Str, a.length ≤ 1000 → b.length ≤ 1000 → cat a b = some (a ++ b) := fun a b ha hb => c4_ (by omega)
  refine aa_ (l1 _) ?_
  refine aa_ (l4 _) ?_
  refine aa_ (hcat _ _ (by simp [ap_]) (by simp [ap_])) ?_
  refine aa_ (l8 _) ?_
  refine aa_ (hcat _ _ (by simp [ap_]) (by simp [ap_])) ?_
  refine aa_ (l2 _) ?_
  refine aa_ (l4 _) ?_
  refine aa_ (hcat _ _ (by simp [ap_]) (by simp [ap_])) ?_
  refine aa_ (hcat _ _ (by simp [ap_]) (by simp [ap_])) ?_
  refine aa_ (l4 _) ?_
  refine aa_ (hcat _ _ (by simp [ap_]) (by simp [ap_])) ?_
  refine aa_ (l8 _) ?_
  refine aa_ (hcat _ _ (by simp [ap_]) (by simp [ap_])) ?_
  refine aa_ (l8 _) ?_
  refine aa_ (hcat _ _ (by simp [ap_]) (by simp [ap_])) ?_
  refine aa_ (l8 _) ?_
  refine aa_ (hcat _ _ (by simp [ap_]) (by simp [ap_])) ?_
  refine aa_ (jv_ x.Name_ (by omega)) ?_
  refine aa_ (hcat _ _ (by simp [ap_]) (by simp [b4_]; omega)) ?_
  refine aa_ (jv_ x.Uid_ (by omega)) ?_
  refine aa_ (hcat _ _ (by simp [ap_, b4_]; omega) (by simp [b4_]; omega)) ?_
  refine aa_ (jv_ x.Gid_ (by omega)) ?_
  refine aa_ (hcat _ _ (by simp [ap_, b4_]; omega) (by simp [b4_]; omega)) ?_
  refine aa_ (jv_ x.Muid_ (by omega)) ?_
  refine aa_ (hcat _ _ (by simp [ap_, b4_]; omega) (by simp [b4_]; omega)) ?_
  have e : leB x.Type_ 2 ++ leB x.Dev_ 4 ++ (leB x.Qid_.Type_ 1 ++ leB x.Qid_.Vers_ 4 ++ leB x.Qid_.Path_ 8) ++ leB x.Mode_ 4 ++ leB x.Atime_ 8 ++ leB x.Mtime_ 8 ++ leB x.Length_ 8 ++ bp_ x.Name_ ++ bp_ x.Uid_ ++ bp_ x.Gid_ ++ bp_ x.Muid_ = aD_ x := by
   simp [aD_, cL_]
  rw [e]
  refine aa_ (l2 _) ?_
  refine aa_ (c4_ (by rw [ap_, iO_]; omega)) ?_
  simp only [bf_]
 ·have c : (bi_ x != 0) = true := by simp [hc]
  rw [if_neg hc]
  exact ac_ c rfl
end Go.Proofs.YtolgkhjkdadhiaaGreat
namespace Go.Proofs.YtolgkhjkdadhiaaGreat
open Go.Rt Go.RowKit
theorem byteAt_nat (n i : Nat) : dX_ (n : Int) i = ((n / 2 ^ (8 * i) % 256 : Nat) : Int) := by
 unfold dX_
 rw [Int.fdiv_eq_ediv_of_nonneg _ (Int.le_of_lt (Int.pow_pos (by omega)))]
 simp
theorem wrap_tmod (q : Nat) : IntKind.u8.wrap ((q : Int).tmod 256) = ((q % 256 : Nat) : Int) := by
 rw [wu8, Int.tmod_eq_emod_of_nonneg (Int.natCast_nonneg q)]
 omega
theorem wrap_tdiv (q : Nat) (h : q ≤ 9223372036854775807) : IntKind.i64.wrap ((q : Int).tdiv 256) = ((q / 256 : Nat) : Int) := by
 rw [Int.tdiv_eq_ediv_of_nonneg (Int.natCast_nonneg q), wi64_eq ⟨by omega, by omega⟩]
 omega
theorem v02 (n w : Nat) (h1 : 1 ≤ w) (h8 : w ≤ 8) (hn : n < 2 ^ (8 * w)) (hM : n ≤ 9223372036854775807) : hb_ (n : Int) (w : Int) = some (leB (n : Int) w, 0) := by
 have hB : BIG = 18446744073709551616 := rfl
 unfold hb_ gp_
 rw [Option.bind_some]
 refine ab_ (by simp; omega) ?_
 have h := fU_ (body := hv_ (w : Int)) (fun i => (leB (n : Int) i, ((n / 2 ^ (8 * i) : Nat) : Int), (i : Int))) w (by omega) (b := (leB (n : Int) w, 0)) (fun i hi => ?_) ?_
 ·have e : leB (n : Int) 0 = [] := rfl
  simp only [e, Nat.mul_zero, Nat.pow_zero, Nat.div_one] at h
  exact aa_ h (ab_ rfl rfl)
 ·unfold hv_
  have hv : (0 : Int) ≤ ((n / 2 ^ (8 * i) : Nat) : Int) := Int.natCast_nonneg _
  refine ac_ (by simp only [Bool.and_eq_true, decide_eq_true_eq]; exact ⟨by omega, hv⟩) ?_
  have hd : n / 2 ^ (8 * i) ≤ n := Nat.div_le_self _ _
  have e1 : IntKind.u8.wrap (((n / 2 ^ (8 * i) : Nat) : Int).tmod 256) = dX_ (n : Int) i := by rw [byteAt_nat, wrap_tmod]
  have e2 : IntKind.i64.wrap (((n / 2 ^ (8 * i) : Nat) : Int).tdiv 256) = ((n / 2 ^ (8 * (i + 1)) : Nat) : Int) := by
   rw [wrap_tdiv _ (by omega), Nat.div_div_eq_div_mul, show 8 * (i + 1) = 8 * i + 8 by omega, Nat.pow_add]
  show Option.bind (cat (leB (n : Int) i) (b8_ [IntKind.u8.wrap (((n / 2 ^ (8 * i) : Nat) : Int).tmod 256)])) _ = _
  rw [e1]
  refine aa_ (c4_ (by rw [ap_]; simp [b8_]; omega)) ?_
  show some (Step.next (leB (n : Int) i ++ b8_ [dX_ (n : Int) i], IntKind.i64.wrap (((n / 2 ^ (8 * i) : Nat) : Int).tdiv 256), w64 ((i : Int) + 1))) = _
  rw [e2, am_ ⟨by omega, by omega⟩, nW_]
  rfl
 ·unfold hv_
  refine ab_ (by simp) ?_
  show some (Step.done (leB (n : Int) w, ((n / 2 ^ (8 * w) : Nat) : Int))) = _
  rw [Nat.div_eq_of_lt hn]
  rfl
theorem ew_ {w : Str} {n : Int} {k : Nat} {t : Str} (h1 : 1 ≤ k) (h8 : k ≤ 8) (he : bc_ n k = some t) (hn : n ≤ 9223372036854775807) (h : w.length + t.length ≤ 9223372036854775807) : bj_ ⟨w, 0⟩ n (k : Int) = some ⟨w ++ t, 0⟩ := by
 obtain ⟨a, rfl⟩ := mJ_ he
 unfold bx_ at a
 simp only [Bool.and_eq_true, Bool.or_eq_true, decide_eq_true_eq] at a
 obtain ⟨m, rfl⟩ : ∃ m : Nat, n = (m : Int) := ⟨n.toNat, by omega⟩
 have hlt : m < 2 ^ (8 * k) := by
  rcases a.2 with h | h
  ·have : k = 8 := by omega
   subst this
   show m < 18446744073709551616
   omega
  ·exact_mod_cast h
 unfold bj_
 exact aa_ (v02 m k h1 h8 hlt (by omega)) (aa_ (ac_ rfl (aa_ (c4_ h) rfl)) rfl)
theorem vtext {w s t : Str} (he : b6_ s = some t) (h : w.length + t.length ≤ 9223372036854775807) : dg_ ⟨w, 0⟩ s = some ⟨w ++ t, 0⟩ := by
 obtain ⟨a, rfl⟩ := iR_ he
 have e := v02 s.length 2 (by omega) (by omega) (by omega) (by omega)
 unfold dg_ i3_
 refine aa_ (a := (bp_ s, 0)) (aa_ e (ab_ rfl (aa_ (c4_ (by rw [ap_]; omega)) rfl))) (aa_ (ac_ rfl (aa_ (c4_ h) rfl)) rfl)
end Go.Proofs.YtolgkhjkdadhiaaGreat
namespace Go.Proofs.YtolgkhjkdadhiaaGreat
open Go.Rt Go.RowKit
theorem vqid {w : Str} {q : api_Qid} {t : Str} (he : dL_ q = some t) (hq : qle q) (h : w.length + t.length ≤ 9223372036854775807) : iM_ ⟨w, 0⟩ q = some ⟨w ++ t, 0⟩ := by
 obtain ⟨a, b, c, rfl⟩ := kz_ he
 simp only [List.length_append] at h
 unfold iM_
 refine aa_ (ew_ (k := 1) (t := leB q.Type_ 1) (by omega) (by omega) (gf_ a) hq.2.1 (by omega)) ?_
 refine aa_ (ew_ (k := 4) (t := leB q.Vers_ 4) (by omega) (by omega) (gf_ b) hq.2.2 (by simp only [List.length_append]; omega)) ?_
 refine aa_ (ew_ (k := 8) (t := leB q.Path_ 8) (by omega) (by omega) (gf_ c) hq.1 (by simp only [List.length_append]; omega)) ?_
 simp only [List.append_assoc]
theorem nA_ (m : api_Msg) (hl : m.Names_.length ≤ 65535) : ∀ (k fuel i : Nat) (w t : Str), i + k = m.Names_.length → k < fuel → cn_ b6_ (m.Names_.drop i) = some t → w.length + t.length ≤ 9223372036854775807 → an_ (gH_ m) fuel ((i : Int), ⟨w, 0⟩) = some ⟨w ++ t, 0⟩
 | 0, fuel + 1, i, w, t, hi, _, he, _ => by
  rw [show m.Names_.drop i = [] from List.drop_eq_nil_of_le (by omega)] at he
  cases he
  refine ar_ ?_
  unfold gH_
  exact ab_ (by simp; omega) (by simp)
 | k + 1, fuel + 1, i, w, t, hi, hk, he, h => by
  have hlt : i < m.Names_.length := by omega
  rw [List.drop_eq_getElem_cons hlt] at he
  obtain ⟨a, b, h1, h2, rfl⟩ := eS_ he
  simp only [List.length_append] at h
  have ih := nA_ m hl k fuel (i + 1) (w ++ a) b (by omega) (by omega) h2 (by simp only [List.length_append]; omega)
  rw [List.append_assoc] at ih
  refine ay_ ?_ ih
  unfold gH_
  refine ac_ (by simp; omega) (aa_ (az_ hlt) (aa_ (vtext h1 (by omega)) ?_))
  rw [am_ (n := (i : Int) + 1) ⟨by omega, by omega⟩]; rfl
theorem pz_ (m : api_Msg) (hq : ∀ q ∈ m.Qids_, qle q) (hl : m.Qids_.length ≤ 65535) : ∀ (k fuel i : Nat) (w t : Str), i + k = m.Qids_.length → k < fuel → cn_ dL_ (m.Qids_.drop i) = some t → w.length + t.length ≤ 9223372036854775807 → an_ (gI_ m) fuel ((i : Int), ⟨w, 0⟩) = some ⟨w ++ t, 0⟩
 | 0, fuel + 1, i, w, t, hi, _, he, _ => by
  rw [show m.Qids_.drop i = [] from List.drop_eq_nil_of_le (by omega)] at he
  cases he
  refine ar_ ?_
  unfold gI_
  exact ab_ (by simp; omega) (by simp)
 | k + 1, fuel + 1, i, w, t, hi, hk, he, h => by
  have hlt : i < m.Qids_.length := by omega
  rw [List.drop_eq_getElem_cons hlt] at he
  obtain ⟨a, b, h1, h2, rfl⟩ := eS_ he
  simp only [List.length_append] at h
  have ih := pz_ m hq hl k fuel (i + 1) (w ++ a) b (by omega) (by omega) h2 (by simp only [List.length_append]; omega)
  rw [List.append_assoc] at ih
  refine ay_ ?_ ih
  unfold gI_
  refine ac_ (by simp; omega) (aa_ (az_ hlt) (aa_ (vqid h1 (hq _ (List.getElem_mem hlt)) (by omega)) ?_))
  rw [am_ (n := (i : Int) + 1) ⟨by omega, by omega⟩]; rfl
def Lt.num : Lt → Int
 | .m => 1 | .v => 2 | .s => 3 | .a => 4 | .u => 5 | .x => 6 | .q => 7 | .f => 8 | .e => 9 | .o => 10 | .n => 11 | .w => 12
 | .W => 13 | .M => 14 | .i => 15 | .N => 16 | .p => 17 | .O => 18 | .c => 19 | .d => 20 | .S => 21 | .l => 22 | .t => 23
theorem text_all : (List.range 60).all (fun n => n == 0 || decide (jr_ (n : Int) = some (cv_ (n : Int)))) = true := by kernel_rfl
theorem text_eq (n : Int) (h1 : 1 ≤ n) (h2 : n ≤ 59) : jr_ n = some (cv_ n) := by
 have := List.all_eq_true.1 text_all n.toNat (by simp; omega)
 have h0 : (n.toNat == 0) = false := by simp; omega
 rw [h0, Bool.false_or, decide_eq_true_eq, show ((n.toNat : Nat) : Int) = n by omega] at this
 exact this
theorem vlist12 {m : api_Msg} {w t : Str} (he : encL b6_ m.Names_ = some t) (h : w.length + t.length ≤ 9223372036854775807) : dh_ ⟨w, 0⟩ m 12 = some ⟨w ++ t, 0⟩ := by
 obtain ⟨hl, b, h1, rfl⟩ := dR_ he
 simp only [List.length_append] at h
 have hB : BIG = 18446744073709551616 := rfl
 unfold dh_
 refine aa_ (a := ⟨w ++ (leB (m.Names_.length : Int) 2 ++ b), 0⟩) (ac_ rfl ?_) rfl
 refine aa_ (ew_ (k := 2) (by omega) (by omega) (ie_ _ hl) (by omega) (by omega)) ?_
 refine aa_ (nA_ m hl m.Names_.length BIG 0 _ b (by omega) (by omega) h1 (by simp only [List.length_append]; omega)) ?_
 simp only [List.append_assoc]
theorem vlist13 {m : api_Msg} {w t : Str} (hq : ∀ q ∈ m.Qids_, qle q) (he : encL dL_ m.Qids_ = some t) (h : w.length + t.length ≤ 9223372036854775807) : dh_ ⟨w, 0⟩ m 13 = some ⟨w ++ t, 0⟩ := by
 obtain ⟨hl, b, h1, rfl⟩ := dR_ he
 simp only [List.length_append] at h
 have hB : BIG = 18446744073709551616 := rfl
 unfold dh_
 refine aa_ (a := ⟨w ++ (leB (m.Qids_.length : Int) 2 ++ b), 0⟩) (ab_ rfl (ac_ rfl ?_)) rfl
 refine aa_ (ew_ (k := 2) (by omega) (by omega) (ie_ _ hl) (by omega) (by omega)) ?_
 refine aa_ (pz_ m hq hl m.Qids_.length BIG 0 _ b (by omega) (by omega) h1 (by simp only [List.length_append]; omega)) ?_
 simp only [List.append_assoc]
theorem vlist20 {m : api_Msg} {w t : Str} (he : encD m.Data_ 4 = some t) (h : w.length + t.length ≤ 9223372036854775807) : dh_ ⟨w, 0⟩ m 20 = some ⟨w ++ t, 0⟩ := by
 obtain ⟨a, rfl⟩ := kA_ he
 simp only [List.length_append] at h
 unfold dh_
 refine aa_ (a := ⟨w ++ (leB (m.Data_.length : Int) 4 ++ m.Data_), 0⟩) (ab_ rfl (ab_ rfl (ac_ rfl ?_))) rfl
 refine aa_ (ew_ (k := 4) (t := leB (m.Data_.length : Int) 4) (by omega) (by omega) (gf_ a) (by omega) (by omega)) ?_
 refine aa_ (c4_ (by simp only [List.length_append]; omega)) ?_
 simp only [List.append_assoc]
theorem vlist21 {m : api_Msg} {w t : Str} (he : encS m.Stat_ = some t) (h : w.length + t.length ≤ 9223372036854775807) : dh_ ⟨w, 0⟩ m 21 = some ⟨w ++ t, 0⟩ := by
 obtain ⟨a, rfl⟩ := iS_ he
 simp only [List.length_append] at h
 obtain ⟨l1, l2, l3, l4⟩ := eQ_ m.Stat_ (di_ m.Stat_ a).2
 have hlen := j1_ m.Stat_
 unfold dh_
 refine aa_ (a := ⟨w ++ (leB ((bf_ m.Stat_).length : Int) 2 ++ bf_ m.Stat_), 0⟩) (ab_ rfl (ab_ rfl (ab_ rfl (ac_ rfl ?_)))) rfl
 refine aa_ (ref_put_eq m.Stat_ (by omega)) ?_
 unfold putR
 rw [if_pos a]
 refine aa_ (a := ⟨w, 0⟩) (ab_ rfl rfl) ?_
 refine aa_ (ew_ (n := ((bf_ m.Stat_).length : Int)) (k := 2) (t := leB ((bf_ m.Stat_).length : Int) 2) (by omega) (by omega) (ie_ (bf_ m.Stat_).length (by omega)) (by omega) (by omega)) ?_
 refine aa_ (c4_ (by simp only [List.length_append]; omega)) ?_
 simp only [List.append_assoc]
theorem vfield (k : Lt) (m : api_Msg) (w t : Str) (he : encF k m = some t) (hf : fine k m) (h : w.length + t.length ≤ 9223372036854775807) : iA_ ⟨w, 0⟩ m k.num = some ⟨w ++ t, 0⟩ := by
 unfold iA_
 cases k with
 | m => exact aa_ (ew_ (k := 4) (by omega) (by omega) he hf h) rfl
 | v => exact aa_ (vtext he h) rfl
 | s => exact aa_ (vtext he h) rfl
 | a => exact aa_ (ew_ (k := 4) (by omega) (by omega) he hf h) rfl
 | u => exact aa_ (vtext he h) rfl
 | x => exact aa_ (vtext he h) rfl
 | q => exact aa_ (vqid he hf h) rfl
 | f => exact aa_ (ew_ (k := 4) (by omega) (by omega) he hf h) rfl
 | e => exact aa_ (text_eq m.Err_ hf.1 hf.2) (aa_ (vtext he h) rfl)
 | o => exact aa_ (ew_ (k := 2) (by omega) (by omega) he hf h) rfl
 | n => exact aa_ (ew_ (k := 4) (by omega) (by omega) he hf h) rfl
 | w => exact aa_ (vlist12 he h) rfl
 | W => exact aa_ (vlist13 hf he h) rfl
 | M => exact aa_ (ew_ (k := 1) (by omega) (by omega) he hf h) rfl
 | i => exact aa_ (ew_ (k := 4) (by omega) (by omega) he hf h) rfl
 | N => exact aa_ (vtext he h) rfl
 | p => exact aa_ (ew_ (k := 4) (by omega) (by omega) he hf h) rfl
 | O => exact aa_ (ew_ (k := 8) (by omega) (by omega) he hf h) rfl
 | c => exact aa_ (ew_ (k := 4) (by omega) (by omega) he hf h) rfl
 | d => exact aa_ (vlist20 he h) rfl
 | S => exact aa_ (vlist21 he h) rfl
 | l => exact aa_ (ew_ (k := 1) (by omega) (by omega) he hf h) rfl
 | t => exact aa_ (ew_ (k := 4) (by omega) (by omega) he hf h) rfl
theorem vput_loop (m : api_Msg) (L : List Lt) (hL : L.length ≤ 100) (b : Bool) : ∀ (k fuel i : Nat) (w t : Str), i + k = L.length → k < fuel → encA (L.drop i) m = some t → (∀ k ∈ L, fine k m) → w.length + t.length ≤ 9223372036854775807 → an_ (hw_ (L.map Lt.num, b) m) fuel ((i : Int), ⟨w, 0⟩) = some ⟨w ++ t, 0⟩
 | 0, fuel + 1, i, w, t, hi, _, he, _, _ => by
  rw [show L.drop i = [] from List.drop_eq_nil_of_le (by omega)] at he
  cases he
  refine ar_ ?_
  unfold hw_
  exact ab_ (by simp; omega) (by simp)
 | k + 1, fuel + 1, i, w, t, hi, hk, he, hf, h => by
  have hlt : i < L.length := by omega
  rw [List.drop_eq_getElem_cons hlt, kC_] at he
  obtain ⟨a, b', h1, h2, rfl⟩ := fZ_ he
  simp only [List.length_append] at h
  have ih := vput_loop m L hL b k fuel (i + 1) (w ++ a) b' (by omega) (by omega) h2 hf (by simp only [List.length_append]; omega)
  rw [List.append_assoc] at ih
  refine ay_ ?_ ih
  unfold hw_
  refine ac_ (by simp; omega) (aa_ (a := L[i].num) ?_ (aa_ (vfield _ m w a h1 (hf _ (List.getElem_mem hlt)) (by omega)) ?_))
  ·show au_ (L.map Lt.num) (i : Int) = _
   rw [az_ (by simpa using hlt)]
   simp
  ·rw [am_ (n := (i : Int) + 1) ⟨by omega, by omega⟩]; rfl
end Go.Proofs.YtolgkhjkdadhiaaGreat
namespace Go.Proofs.YtolgkhjkdadhiaaGreat
open Go.Rt Go.RowKit
def eqF (k : Lt) (m m' : api_Msg) : Prop := match k with
 | .m => m.Msize_ = m'.Msize_
 | .v => m.Version_ = m'.Version_
 | .s => m.Session_ = m'.Session_
 | .a => m.AuthFid_ = m'.AuthFid_
 | .u => m.User_ = m'.User_
 | .x => m.Attach_ = m'.Attach_
 | .q => m.Qid_ = m'.Qid_
 | .f => m.Fid_ = m'.Fid_
 | .e => m.Err_ = m'.Err_
 | .o => m.OldTag_ = m'.OldTag_
 | .n => m.NewFid_ = m'.NewFid_
 | .w => m.Names_ = m'.Names_
 | .W => m.Qids_ = m'.Qids_
 | .M => m.Mode_ = m'.Mode_
 | .i => m.Iounit_ = m'.Iounit_
 | .N => m.Name_ = m'.Name_
 | .p => m.Perm_ = m'.Perm_
 | .O => m.Offset_ = m'.Offset_
 | .c => m.Count_ = m'.Count_
 | .d => m.Data_ = m'.Data_
 | .S => m.Stat_ = m'.Stat_
 | .l => m.Lease_ = m'.Lease_
 | .t => m.Term_ = m'.Term_
theorem eqF_cp (k : Lt) (m' m : api_Msg) : eqF k (cpF k m' m) m' := by cases k <;> rfl
theorem eqF_other (k k' : Lt) (h : k ≠ k') (m' m x : api_Msg) : eqF k (cpF k' m' m) x ↔ eqF k m x := by cases k <;> cases k' <;> first | exact absurd rfl h | exact Iff.rfl
theorem eqF_cps (k : Lt) (m' : api_Msg) : ∀ (l : List Lt) (m : api_Msg), eqF k (cps l m' m) m' ↔ (k ∈ l ∨ eqF k m m')
 | [], m => by simp [cps]
 | j :: l, m => by
  show eqF k (cps l m' (cpF j m' m)) m' ↔ _
  rw [eqF_cps k m' l]
  by_cases h : k = j
  ·subst h
   simp [eqF_cp]
  ·rw [eqF_other k j h]
   simp [h]
theorem msg_ext (m m' : api_Msg) : m = m' ↔ m.Kind_ = m'.Kind_ ∧ m.Tag_ = m'.Tag_ ∧ ∀ k, eqF k m m' := by
 constructor
 ·rintro rfl
  exact ⟨rfl, rfl, fun k => by cases k <;> rfl⟩
 ·rintro ⟨h1, h2, h⟩
  have h_m : m.Msize_ = m'.Msize_ := h .m
  have h_v : m.Version_ = m'.Version_ := h .v
  have h_s : m.Session_ = m'.Session_ := h .s
  have h_a : m.AuthFid_ = m'.AuthFid_ := h .a
  have h_u : m.User_ = m'.User_ := h .u
  have h_x : m.Attach_ = m'.Attach_ := h .x
  have h_q : m.Qid_ = m'.Qid_ := h .q
  have h_f : m.Fid_ = m'.Fid_ := h .f
  have h_e : m.Err_ = m'.Err_ := h .e
  have h_o : m.OldTag_ = m'.OldTag_ := h .o
  have h_n : m.NewFid_ = m'.NewFid_ := h .n
  have h_w : m.Names_ = m'.Names_ := h .w
  have h_W : m.Qids_ = m'.Qids_ := h .W
  have h_M : m.Mode_ = m'.Mode_ := h .M
  have h_i : m.Iounit_ = m'.Iounit_ := h .i
  have h_N : m.Name_ = m'.Name_ := h .N
  have h_p : m.Perm_ = m'.Perm_ := h .p
  have h_O : m.Offset_ = m'.Offset_ := h .O
  have h_c : m.Count_ = m'.Count_ := h .c
  have h_d : m.Data_ = m'.Data_ := h .d
  have h_S : m.Stat_ = m'.Stat_ := h .S
  have h_l : m.Lease_ = m'.Lease_ := h .l
  have h_t : m.Term_ = m'.Term_ := h .t
  cases m; cases m'
  simp only at h1 h2 h_m h_v h_s h_a h_u h_x h_q h_f h_e h_o h_n h_w h_W h_M h_i h_N h_p h_O h_c h_d h_S h_l h_t
  subst h1 h2 h_m h_v h_s h_a h_u h_x h_q h_f h_e h_o h_n h_w h_W h_M h_i h_N h_p h_O h_c h_d h_S h_l h_t
  rfl
def aN_ (k : Lt) (m : api_Msg) : Bool := match k with
 | .m => decide (m.Msize_ = 0)
 | .v => decide (m.Version_ = [])
 | .s => decide (m.Session_ = [])
 | .a => decide (m.AuthFid_ = 0)
 | .u => decide (m.User_ = [])
 | .x => decide (m.Attach_ = [])
 | .q => decide (m.Qid_ = (api_Qid.mk 0 0 0))
 | .f => decide (m.Fid_ = 0)
 | .e => decide (m.Err_ = 0)
 | .o => decide (m.OldTag_ = 0)
 | .n => decide (m.NewFid_ = 0)
 | .w => decide (m.Names_ = [])
 | .W => decide (m.Qids_ = [])
 | .M => decide (m.Mode_ = 0)
 | .i => decide (m.Iounit_ = 0)
 | .N => decide (m.Name_ = [])
 | .p => decide (m.Perm_ = 0)
 | .O => decide (m.Offset_ = 0)
 | .c => decide (m.Count_ = 0)
 | .d => decide (m.Data_ = [])
 | .S => decide (m.Stat_ = (api_Dir.mk 0 0 (api_Qid.mk 0 0 0) 0 0 0 0 [] [] [] []))
 | .l => decide (m.Lease_ = 0)
 | .t => decide (m.Term_ = 0)
theorem zeroF_eq (k : Lt) (m : api_Msg) : aN_ k m = true ↔ eqF k (bW_ m.Kind_ m.Tag_) m := by
 cases k <;> (unfold aN_ eqF; rw [decide_eq_true_eq]; exact eq_comm)
theorem cps_kind (m' : api_Msg) : ∀ (l : List Lt) (m : api_Msg), (cps l m' m).Kind_ = m.Kind_ ∧ (cps l m' m).Tag_ = m.Tag_
 | [], _ => ⟨rfl, rfl⟩
 | k :: l, m => by
  obtain ⟨h1, h2⟩ := cps_kind m' l (cpF k m' m)
  exact ⟨h1.trans (nc_ k m' m).1, h2.trans (nc_ k m' m).2⟩
theorem only_iff (l : List Lt) (m : api_Msg) : cps l m (bW_ m.Kind_ m.Tag_) = m ↔ ∀ k, k ∈ l ∨ aN_ k m = true := by
 rw [msg_ext]
 have hk := cps_kind m l (bW_ m.Kind_ m.Tag_)
 constructor
 ·rintro ⟨_, _, h⟩ k
  rw [zeroF_eq]
  exact (eqF_cps k m l _).1 (h k)
 ·intro h
  refine ⟨hk.1, hk.2, fun k => (eqF_cps k m l _).2 ?_⟩
  have := h k
  rwa [zeroF_eq] at this
def Lt.ref : Lt → Nat
 | .m => 122
 | .v => 118
 | .s => 83
 | .a => 97
 | .u => 117
 | .x => 116
 | .q => 113
 | .f => 102
 | .e => 69
 | .o => 111
 | .n => 110
 | .w => 78
 | .W => 81
 | .M => 109
 | .i => 105
 | .N => 101
 | .p => 112
 | .O => 79
 | .c => 99
 | .d => 100
 | .S => 115
 | .l => 108
 | .t => 84
def Lt.r8 (k : Lt) : UInt8 := UInt8.ofNat k.ref
theorem Lt.r8_nat (k : Lt) : k.r8.toNat = k.ref := by cases k <;> rfl
def refB (l : List Lt) : Str := l.map Lt.r8
theorem kF_ (l : List Lt) (i : Nat) (h : i < l.length) : bV_ (refB l) (i : Int) = some (l[i].ref : Int) := by
 rw [eu_ (by simp only [refB, List.length_map]; exact h)]
 simp [refB, Lt.r8_nat]
theorem ref_inj {j k : Lt} (h : j.ref = k.ref) : j = k := by
 cases j <;> cases k <;> first | rfl | exact absurd h (by decide)
def allL : List Lt := [.f, .n, .a, .o, .m, .v, .u, .x, .w, .W, .q, .i, .M, .p, .N, .O, .c, .d, .S, .e, .l, .t, .s]
theorem mem_all (k : Lt) : k ∈ allL := by cases k <;> decide
theorem pA_ (k : Lt) (m : api_Msg) : jo_ m (k.ref : Int) = some (aN_ k m) := by
 unfold jo_ h5_
 cases k with
 | m => rfl
 | v =>
  show some (m.Version_ == []) = some (decide (m.Version_ = []))
  rw [Bool.beq_eq_decide_eq]
 | s =>
  show some (m.Session_ == []) = some (decide (m.Session_ = []))
  rw [Bool.beq_eq_decide_eq]
 | a => rfl
 | u =>
  show some (m.User_ == []) = some (decide (m.User_ = []))
  rw [Bool.beq_eq_decide_eq]
 | x =>
  show some (m.Attach_ == []) = some (decide (m.Attach_ = []))
  rw [Bool.beq_eq_decide_eq]
 | q => rfl
 | f => rfl
 | e => rfl
 | o => rfl
 | n => rfl
 | w =>
  show some ((m.Names_.length : Int) == 0) = some (decide (m.Names_ = []))
  cases m.Names_ with
  | nil => rfl
  | cons _ l => simp; omega
 | W =>
  show some ((m.Qids_.length : Int) == 0) = some (decide (m.Qids_ = []))
  cases m.Qids_ with
  | nil => rfl
  | cons _ l => simp; omega
 | M => rfl
 | i => rfl
 | N =>
  show some (m.Name_ == []) = some (decide (m.Name_ = []))
  rw [Bool.beq_eq_decide_eq]
 | p => rfl
 | O => rfl
 | c => rfl
 | d =>
  show some (m.Data_ == []) = some (decide (m.Data_ = []))
  rw [Bool.beq_eq_decide_eq]
 | S => rfl
 | l => rfl
 | t => rfl
theorem uses_eq (kd : Int) (l : List Lt) (k : Lt) (hf : cQ_ kd = some (refB l)) (hl : l.length ≤ 100) : hr_ kd (k.ref : Int) = some (decide (k ∈ l)) := by
 have hB : BIG = 18446744073709551616 := rfl
 have hlen : (refB l).length = l.length := by simp [refB]
 unfold hr_
 refine aa_ hf (aa_ (cd_ l (fun j => if j = k then some true else none) (by omega) (fun i hi => ?_) ?_) ?_)
 ·unfold iX_
  refine ac_ (by rw [hlen]; simp; omega) (aa_ (kF_ l i hi) ?_)
  rw [am_ (n := (i : Int) + 1) ⟨by omega, by omega⟩]
  by_cases h : l[i] = k
  ·simp only [h, if_true]; exact ac_ (by simp) rfl
  ·simp only [h, if_false]
   refine ab_ ?_ rfl
   have : l[i].ref ≠ k.ref := fun h' => h (ref_inj h')
   simp; omega
 ·unfold iX_
  exact ab_ (by rw [hlen]; simp) rfl
 ·by_cases h : k ∈ l
  ·have : l.findSome? (fun j => if j = k then some true else none) = some true := by
    cases e : l.findSome? (fun j => if j = k then some true else none) with
    | none => have := iQ_ e k h; simp at this
    | some b =>
     obtain ⟨y, _, hy⟩ := List.exists_of_findSome?_eq_some e
     split at hy
     ·exact hy.symm
     ·cases hy
   rw [this]; simp [h]
  ·have : l.findSome? (fun j => if j = k then some true else none) = none := by
    cases e : l.findSome? (fun j => if j = k then some true else none) with
    | none => rfl
    | some b =>
     obtain ⟨y, hy', hy⟩ := List.exists_of_findSome?_eq_some e
     split at hy
     ·rename_i hk; subst hk; exact absurd hy' h
     ·cases hy
   rw [this]; simp [h]
theorem cI_ (x b : Int) : bg_ x b = some (inR x 0 b) := by
 unfold bg_ inR
 by_cases h : 0 ≤ x ∧ x ≤ b
 ·rw [if_pos h]; exact ab_ (by simp; omega) rfl
 ·rw [if_neg h]; exact ac_ (by simp; omega) rfl
theorem iU_ (s : Str) (n : Int) : dn_ s n = some (aT_ s n) := by
 unfold dn_ aT_
 by_cases h : (s.length : Int) ≤ n
 ·rw [if_pos h]; exact ab_ (by simp; omega) rfl
 ·rw [if_neg h]; exact ac_ (by simp; omega) rfl
theorem refnames_eq (l : List Str) (hl : ∀ s ∈ l, s.length ≤ 9223372036854775807) : iy_ l = some (hE_ l) := by
 unfold iy_ hE_
 have hB : BIG = 18446744073709551616 := rfl
 by_cases h : l.length > 16
 ·rw [if_pos h]; exact ac_ (by simp; omega) rfl
 ·rw [if_neg h]
  refine ab_ (by simp; omega) (aa_ (cd_ l hD_ (by omega) (fun i hi => ?_) ?_) ?_)
  ·unfold h6_
   refine ac_ (by simp; omega) (aa_ (az_ hi) ?_)
   rw [az_ hi, am_ (n := (i : Int) + 1) ⟨by omega, by omega⟩, Option.bind_some, j4_ _ (hl _ (List.getElem_mem hi))]
   generalize l[i] = s
   unfold hD_
   by_cases h1 : s = [46, 46]
   ·subst h1; rfl
   ·have h2 : (!(s == [46, 46])) = true := by simpa using h1
    rw [h2]
    cases cb_ s <;> simp [h1]
  ·unfold h6_
   exact ab_ (by simp) rfl
  ·cases l.findSome? hD_ <;> rfl
end Go.Proofs.YtolgkhjkdadhiaaGreat
namespace Go.Proofs.YtolgkhjkdadhiaaGreat
open Go.Rt Go.RowKit
def badT (T : Int) : Bool := (((decide (T < 0)) || (decide (T > 255))) || ((T.tmod 8) != 0)) || (((IntKind.i64.wrap (T.tdiv 16)).tmod 2) != 0)
theorem bad_all : (List.range 256).all (fun n => badT (n : Int) == (decide ((n : Int) < 0) || (eA_ .i64 (n : Int) 232 != 0))) = true := by kernel_rfl
theorem bad_eq (T : Int) (h : T ≤ 9223372036854775807) : badT T = (decide (T < 0) || (eA_ .i64 T 232 != 0)) := by
 by_cases h0 : T < 0
 ·unfold badT
  have : decide (T < 0) = true := by simpa using h0
  rw [this]; simp
 ·by_cases h1 : T ≤ 255
  ·have := List.all_eq_true.1 bad_all T.toNat (by simp; omega)
   rw [show ((T.toNat : Nat) : Int) = T by omega] at this
   simpa using this
  ·have e1 : badT T = true := by
    unfold badT
    have : decide (T > 255) = true := by simp; omega
    rw [this]; simp
   have e2 : (eA_ .i64 T 232 != 0) = true := by
    cases e : (eA_ .i64 T 232 != 0) with
    | true => rfl
    | false =>
     have hz : eA_ .i64 T 232 = 0 := by simpa using e
     have hb : cG_ T ((232 : Nat) : Int) = true := by
      have hw := kw_ T 232 (by omega) h
      unfold et_ at hw
      rw [← Option.some.inj hw]
      simp only [Bool.or_eq_true, Bool.and_eq_true, beq_iff_eq, decide_eq_true_eq]
      exact .inr ⟨by omega, hz⟩
     have := ic_ T 232 (by omega) h hb
     unfold dA_ at this
     simp only [Bool.or_eq_true, Bool.and_eq_true, beq_iff_eq, decide_eq_true_eq] at this
     omega
   rw [e1, e2]; simp
theorem two_first (a b c d : Int) : bJ_ [inR a 0 b, inR c 0 d] = if (decide (a < 0) || decide (a > b) || decide (c < 0) || decide (c > d)) then 5 else 0 := by
 unfold bJ_ ce_ inR
 by_cases h1 : 0 ≤ a ∧ a ≤ b <;> by_cases h2 : 0 ≤ c ∧ c ≤ d
 ·have : (decide (a < 0) || decide (a > b) || decide (c < 0) || decide (c > d)) = false := by simp; omega
  simp [h1, h2, this]
 ·have : (decide (a < 0) || decide (a > b) || decide (c < 0) || decide (c > d)) = true := by simp; omega
  simp [h1, h2, this]
 ·have : (decide (a < 0) || decide (a > b) || decide (c < 0) || decide (c > d)) = true := by simp; omega
  simp [h1, this]
 ·have : (decide (a < 0) || decide (a > b) || decide (c < 0) || decide (c > d)) = true := by simp; omega
  simp [h1, this]
theorem refqid_eq (q : api_Qid) (h : q.Type_ ≤ 9223372036854775807) : iK_ q = some (dZ_ q) := by
 unfold iK_ dZ_
 rw [← bad_eq q.Type_ h, two_first]
 show (bif ((((badT q.Type_ || decide (q.Vers_ < 0)) || decide (q.Vers_ > 2147483647)) || decide (q.Path_ < 0)) || decide (q.Path_ > 1099511627776)) then some 5 else some 0) = _
 cases badT q.Type_ <;> cases decide (q.Vers_ < 0) <;> cases decide (q.Vers_ > 2147483647) <;> cases decide (q.Path_ < 0) <;> cases decide (q.Path_ > 1099511627776) <;> rfl
theorem refqids_eq (l : List api_Qid) (hq : ∀ q ∈ l, q.Type_ ≤ 9223372036854775807) : jp_ l = some (jt_ l) := by
 unfold jp_ jt_
 have hB : BIG = 18446744073709551616 := rfl
 by_cases h : l.length > 16
 ·rw [if_pos h]; exact ac_ (by simp; omega) rfl
 ·rw [if_neg h]
  refine ab_ (by simp; omega) (aa_ (cd_ l qid1 (by omega) (fun i hi => ?_) ?_) ?_)
  ·unfold iY_
   refine ac_ (by simp; omega) (aa_ (az_ hi) (aa_ (refqid_eq _ (hq _ (List.getElem_mem hi))) ?_))
   rw [am_ (n := (i : Int) + 1) ⟨by omega, by omega⟩]
   unfold qid1 ce_
   by_cases hy : dZ_ l[i] = 0
   ·rw [if_pos hy]; exact ab_ (by simp [hy]) rfl
   ·rw [if_neg hy]; exact ac_ (by simp [hy]) rfl
  ·unfold iY_
   exact ab_ (by simp) rfl
  ·cases l.findSome? qid1 <;> rfl
end Go.Proofs.YtolgkhjkdadhiaaGreat
namespace Go.Proofs.YtolgkhjkdadhiaaGreat
open Go.Rt Go.RowKit
def dE_ (k : Lt) (m : api_Msg) : Int := match k with
 | .f => inR m.Fid_ 0 4294967294 | .n => inR m.NewFid_ 0 4294967294 | .a => if m.Kind_ = 102 then inR m.AuthFid_ 0 4294967294 else inR m.AuthFid_ 0 4294967295
 | .o => inR m.OldTag_ 0 65534 | .m => inR m.Msize_ 0 4294967295 | .v => aT_ m.Version_ 64 | .u => aT_ m.User_ 32 | .x => aT_ m.Attach_ 1024
 | .w => hE_ m.Names_ | .W => jt_ m.Qids_ | .q => dZ_ m.Qid_ | .i => inR m.Iounit_ 0 8192 | .M => inR m.Mode_ 0 255 | .p => inR m.Perm_ 0 4294967295
 | .N => if cb_ m.Name_ then 0 else 6 | .O => inR m.Offset_ 0 9007199254740991 | .c => inR m.Count_ 0 8192 | .d => aT_ m.Data_ 8168 | .S => bi_ m.Stat_
 | .e => inR m.Err_ 1 59 | .l => inR m.Lease_ 0 2 | .t => inR m.Term_ 0 1048576 | .s => aT_ m.Session_ 64
theorem reffault_eq (k : Lt) (m : api_Msg) (h : m.ok) : iz_ m (k.ref : Int) = some (dE_ k m) := by
 obtain ⟨_, h2, _, h4, h5⟩ := h.small
 unfold iz_ hs_
 cases k with
 | f => exact aa_ (cI_ _ _) rfl
 | n => exact aa_ (cI_ _ _) rfl
 | o => exact aa_ (cI_ _ _) rfl
 | m => exact aa_ (cI_ _ _) rfl
 | i => exact aa_ (cI_ _ _) rfl
 | M => exact aa_ (aa_ (cI_ _ _) rfl) rfl
 | p => exact aa_ (aa_ (cI_ _ _) rfl) rfl
 | O => exact aa_ (aa_ (cI_ _ _) rfl) rfl
 | c => exact aa_ (aa_ (cI_ _ _) rfl) rfl
 | l => exact aa_ (aa_ (cI_ _ _) rfl) rfl
 | t => exact aa_ (aa_ (cI_ _ _) rfl) rfl
 | v => exact aa_ (iU_ _ _) rfl
 | u => exact aa_ (iU_ _ _) rfl
 | x => exact aa_ (iU_ _ _) rfl
 | d => exact aa_ (aa_ (iU_ _ _) rfl) rfl
 | s => exact aa_ (aa_ (iU_ _ _) rfl) rfl
 | w => exact aa_ (refnames_eq _ h2) rfl
 | W => exact aa_ (refqids_eq _ fun q hq => (h.qids q hq).1.2) rfl
 | q => exact aa_ (refqid_eq _ h.qid.1.2) rfl
 | S => exact aa_ (aa_ (kW_ _ h5.2.2.2.2.2.2.2.1) rfl) rfl
 | a =>
  show (bif (m.Kind_ == 102) then Option.bind (bg_ m.AuthFid_ 4294967294) _ else Option.bind (bg_ m.AuthFid_ 4294967295) _) = some (if m.Kind_ = 102 then inR m.AuthFid_ 0 4294967294 else inR m.AuthFid_ 0 4294967295)
  by_cases hk : m.Kind_ = 102
  ·rw [if_pos hk]; exact ac_ (by simpa using hk) (aa_ (cI_ _ _) rfl)
  ·rw [if_neg hk]; exact ab_ (by simpa using hk) (aa_ (cI_ _ _) rfl)
 | N =>
  refine aa_ (a := if cb_ m.Name_ then 0 else 6) (aa_ (j4_ _ h4) ?_) rfl
  cases cb_ m.Name_ <;> rfl
 | e =>
  refine aa_ (a := inR m.Err_ 1 59) ?_ rfl
  show (bif (decide (m.Err_ < 1) || decide (m.Err_ > 59)) then some 5 else some 0) = some (inR m.Err_ 1 59)
  unfold inR
  by_cases hc : 1 ≤ m.Err_ ∧ m.Err_ ≤ 59
  ·rw [if_pos hc]; exact ab_ (by simp; omega) rfl
  ·rw [if_neg hc]; exact ac_ (by simp; omega) rfl
theorem refloop2 (m : api_Msg) (h : m.ok) (l : List Lt) (hl : l.length ≤ 100) : an_ (eF_ (refB l) m) BIG 0 = some (match l.findSome? (fun k => ce_ (dE_ k m)) with | none => .fall () | some r => .ret r) := by
 have hB : BIG = 18446744073709551616 := rfl
 have hlen : (refB l).length = l.length := by simp [refB]
 refine (cd_ (body := eF_ (refB l) m) l (fun k => ce_ (dE_ k m)) (by omega) (fun i hi => ?_) ?_).trans ?_
 ·unfold eF_
  refine ac_ (by rw [hlen]; simp; omega) (aa_ (kF_ l i hi) (aa_ (reffault_eq _ m h) ?_))
  rw [am_ (n := (i : Int) + 1) ⟨by omega, by omega⟩]
  unfold ce_
  by_cases hy : dE_ l[i] m = 0
  ·rw [if_pos hy]; exact ab_ (by simp [hy]) rfl
  ·rw [if_neg hy]; exact ac_ (by simp [hy]) rfl
 ·unfold eF_
  exact ab_ (by rw [hlen]; simp) rfl
 ·cases l.findSome? (fun k => ce_ (dE_ k m)) <;> rfl
end Go.Proofs.YtolgkhjkdadhiaaGreat
namespace Go.Proofs.YtolgkhjkdadhiaaGreat
open Go.Rt Go.RowKit
def aO_ (l : List Lt) (m : api_Msg) : Int := match l.findSome? (fun k => ce_ (dE_ k m)) with | none => 0 | some r => r
theorem aH_ (k : Lt) (m : api_Msg) (he : k ≠ .e) (hN : k ≠ .N) (h : aN_ k m = true) : dE_ k m = 0 := by
 cases k with
 | a =>
  have h' : m.AuthFid_ = 0 := of_decide_eq_true h
  show (if m.Kind_ = 102 then inR m.AuthFid_ 0 4294967294 else inR m.AuthFid_ 0 4294967295) = 0
  rw [h']
  by_cases hk : m.Kind_ = 102 <;> simp [hk, inR]
 | e => exact absurd rfl he
 | N => exact absurd rfl hN
 | _ => unfold aN_ at h; have h := of_decide_eq_true h; unfold dE_; simp only; rw [h]; first | rfl | kernel_rfl
theorem ck_ (k : Lt) (m : api_Msg) : aO_ [k] m = dE_ k m := by
 unfold aO_
 simp only [List.findSome?_cons, List.findSome?_nil]
 unfold ce_
 by_cases h : dE_ k m = 0 <;> simp [h]
theorem aB_ {l j : List Lt} {m : api_Msg} : (∀ k ∈ l, k ∉ j → dE_ k m = 0) → l.filter (fun k => decide (k ∈ j)) = j → aO_ l m = aO_ j m := by
 intro h hj
 unfold aO_
 have : l.findSome? (fun k => ce_ (dE_ k m)) = (l.filter (fun k => decide (k ∈ j))).findSome? (fun k => ce_ (dE_ k m)) := by
  clear hj
  induction l with
  | nil => rfl
  | cons k l ih =>
   have ih := ih fun k' hk' => h k' (List.mem_cons_of_mem _ hk')
   by_cases hk : k ∈ j
   ·rw [List.filter_cons_of_pos (by simpa using hk), List.findSome?_cons, List.findSome?_cons, ih]
   ·rw [List.filter_cons_of_neg (by simpa using hk), List.findSome?_cons, h k List.mem_cons_self hk]
    exact ih
 rw [this, hj]
theorem ff_100 (m : api_Msg) (hk : m.Kind_ = 100) (h : m.ok) (hz : ∀ k, k ∈ ([.m, .v] : List Lt) ∨ aN_ k m = true) : ad_ m = some (aO_ [.m, .v] m) := by
 rw [o9_ m hk h, ← aB_ (l := [.m, .v, .s]) (j := [.m, .v]) (m := m) ?_ (by decide)]
 ·rfl
 ·intro k hk' hn
  rcases hz k with h1 | h1
  ·exact absurd h1 hn
  ·exact aH_ k m (by rintro rfl; revert hk' hn; decide) (by rintro rfl; revert hk' hn; decide) h1
theorem ff_101 (m : api_Msg) (hk : m.Kind_ = 101) (h : m.ok) (hz : ∀ k, k ∈ ([.m, .v, .s] : List Lt) ∨ aN_ k m = true) : ad_ m = some (aO_ [.m, .v, .s] m) := by
 rw [pa_ m hk h, ← aB_ (l := [.m, .v, .s]) (j := [.m, .v, .s]) (m := m) ?_ (by decide)]
 ·rfl
 ·intro k hk' hn
  rcases hz k with h1 | h1
  ·exact absurd h1 hn
  ·exact aH_ k m (by rintro rfl; revert hk' hn; decide) (by rintro rfl; revert hk' hn; decide) h1
theorem ff_102 (m : api_Msg) (hk : m.Kind_ = 102) (h : m.ok) (hz : ∀ k, k ∈ ([.a, .u, .x] : List Lt) ∨ aN_ k m = true) : ad_ m = some (aO_ [.a, .u, .x] m) := by
 rw [pb_ m hk h, ← aB_ (l := [.a, .u, .x]) (j := [.a, .u, .x]) (m := m) ?_ (by decide)]
 ·unfold aO_ bJ_
  simp only [List.findSome?_cons, List.findSome?_nil, dE_, hk]
  rfl
 ·intro k hk' hn
  rcases hz k with h1 | h1
  ·exact absurd h1 hn
  ·exact aH_ k m (by rintro rfl; revert hk' hn; decide) (by rintro rfl; revert hk' hn; decide) h1
theorem ff_103 (m : api_Msg) (hk : m.Kind_ = 103) (h : m.ok) (hz : ∀ k, k ∈ ([.q] : List Lt) ∨ aN_ k m = true) : ad_ m = some (aO_ [.q] m) := by
 rw [pc_ m hk h, ← aB_ (l := [.q, .i]) (j := [.q]) (m := m) ?_ (by decide)]
 ·rfl
 ·intro k hk' hn
  rcases hz k with h1 | h1
  ·exact absurd h1 hn
  ·exact aH_ k m (by rintro rfl; revert hk' hn; decide) (by rintro rfl; revert hk' hn; decide) h1
theorem ff_104 (m : api_Msg) (hk : m.Kind_ = 104) (h : m.ok) (hz : ∀ k, k ∈ ([.f, .a, .u, .x] : List Lt) ∨ aN_ k m = true) : ad_ m = some (aO_ [.f, .a, .u, .x] m) := by
 rw [pd_ m hk h, ← aB_ (l := [.f, .a, .u, .x]) (j := [.f, .a, .u, .x]) (m := m) ?_ (by decide)]
 ·unfold aO_ bJ_
  simp only [List.findSome?_cons, List.findSome?_nil, dE_, hk]
  rfl
 ·intro k hk' hn
  rcases hz k with h1 | h1
  ·exact absurd h1 hn
  ·exact aH_ k m (by rintro rfl; revert hk' hn; decide) (by rintro rfl; revert hk' hn; decide) h1
theorem ff_105 (m : api_Msg) (hk : m.Kind_ = 105) (h : m.ok) (hz : ∀ k, k ∈ ([.q] : List Lt) ∨ aN_ k m = true) : ad_ m = some (aO_ [.q] m) := by
 rw [pe_ m hk h, ← aB_ (l := [.q, .i]) (j := [.q]) (m := m) ?_ (by decide)]
 ·rfl
 ·intro k hk' hn
  rcases hz k with h1 | h1
  ·exact absurd h1 hn
  ·exact aH_ k m (by rintro rfl; revert hk' hn; decide) (by rintro rfl; revert hk' hn; decide) h1
theorem ff_107 (m : api_Msg) (hk : m.Kind_ = 107) (h : m.ok) (hz : ∀ k, k ∈ ([.e] : List Lt) ∨ aN_ k m = true) : ad_ m = some (aO_ [.e] m) := by
 rw [pf_ m hk h, ← aB_ (l := [.e]) (j := [.e]) (m := m) ?_ (by decide)]
 ·exact congrArg some (ck_ .e m).symm
 ·intro k hk' hn
  rcases hz k with h1 | h1
  ·exact absurd h1 hn
  ·exact aH_ k m (by rintro rfl; revert hk' hn; decide) (by rintro rfl; revert hk' hn; decide) h1
theorem ff_108 (m : api_Msg) (hk : m.Kind_ = 108) (h : m.ok) (hz : ∀ k, k ∈ ([.o] : List Lt) ∨ aN_ k m = true) : ad_ m = some (aO_ [.o] m) := by
 rw [pg_ m hk h, ← aB_ (l := [.o]) (j := [.o]) (m := m) ?_ (by decide)]
 ·exact congrArg some (ck_ .o m).symm
 ·intro k hk' hn
  rcases hz k with h1 | h1
  ·exact absurd h1 hn
  ·exact aH_ k m (by rintro rfl; revert hk' hn; decide) (by rintro rfl; revert hk' hn; decide) h1
theorem ff_109 (m : api_Msg) (hk : m.Kind_ = 109) (h : m.ok) (hz : ∀ k, k ∈ ([] : List Lt) ∨ aN_ k m = true) : ad_ m = some (aO_ [] m) := by
 rw [fields_109 m hk h, ← aB_ (l := [.f]) (j := []) (m := m) ?_ (by decide)]
 ·exact congrArg some (ck_ .f m).symm
 ·intro k hk' hn
  rcases hz k with h1 | h1
  ·exact absurd h1 hn
  ·exact aH_ k m (by rintro rfl; revert hk' hn; decide) (by rintro rfl; revert hk' hn; decide) h1
theorem ff_110 (m : api_Msg) (hk : m.Kind_ = 110) (h : m.ok) (hz : ∀ k, k ∈ ([.f, .n, .w] : List Lt) ∨ aN_ k m = true) : ad_ m = some (aO_ [.f, .n, .w] m) := by
 rw [ph_ m hk h, ← aB_ (l := [.f, .n, .w]) (j := [.f, .n, .w]) (m := m) ?_ (by decide)]
 ·rfl
 ·intro k hk' hn
  rcases hz k with h1 | h1
  ·exact absurd h1 hn
  ·exact aH_ k m (by rintro rfl; revert hk' hn; decide) (by rintro rfl; revert hk' hn; decide) h1
theorem ff_111 (m : api_Msg) (hk : m.Kind_ = 111) (h : m.ok) (hz : ∀ k, k ∈ ([.W] : List Lt) ∨ aN_ k m = true) : ad_ m = some (aO_ [.W] m) := by
 rw [pi_ m hk h, ← aB_ (l := [.W]) (j := [.W]) (m := m) ?_ (by decide)]
 ·exact congrArg some (ck_ .W m).symm
 ·intro k hk' hn
  rcases hz k with h1 | h1
  ·exact absurd h1 hn
  ·exact aH_ k m (by rintro rfl; revert hk' hn; decide) (by rintro rfl; revert hk' hn; decide) h1
theorem ff_112 (m : api_Msg) (hk : m.Kind_ = 112) (h : m.ok) (hz : ∀ k, k ∈ ([.f, .M] : List Lt) ∨ aN_ k m = true) : ad_ m = some (aO_ [.f, .M] m) := by
 rw [pj_ m hk h, ← aB_ (l := [.f, .M]) (j := [.f, .M]) (m := m) ?_ (by decide)]
 ·rfl
 ·intro k hk' hn
  rcases hz k with h1 | h1
  ·exact absurd h1 hn
  ·exact aH_ k m (by rintro rfl; revert hk' hn; decide) (by rintro rfl; revert hk' hn; decide) h1
theorem ff_113 (m : api_Msg) (hk : m.Kind_ = 113) (h : m.ok) (hz : ∀ k, k ∈ ([.q, .i] : List Lt) ∨ aN_ k m = true) : ad_ m = some (aO_ [.q, .i] m) := by
 rw [pk_ m hk h, ← aB_ (l := [.q, .i]) (j := [.q, .i]) (m := m) ?_ (by decide)]
 ·rfl
 ·intro k hk' hn
  rcases hz k with h1 | h1
  ·exact absurd h1 hn
  ·exact aH_ k m (by rintro rfl; revert hk' hn; decide) (by rintro rfl; revert hk' hn; decide) h1
theorem ff_114 (m : api_Msg) (hk : m.Kind_ = 114) (h : m.ok) (hz : ∀ k, k ∈ ([.f, .N, .p, .M] : List Lt) ∨ aN_ k m = true) : ad_ m = some (aO_ [.f, .N, .p, .M] m) := by
 rw [pl_ m hk h, ← aB_ (l := [.f, .N, .p, .M]) (j := [.f, .N, .p, .M]) (m := m) ?_ (by decide)]
 ·rfl
 ·intro k hk' hn
  rcases hz k with h1 | h1
  ·exact absurd h1 hn
  ·exact aH_ k m (by rintro rfl; revert hk' hn; decide) (by rintro rfl; revert hk' hn; decide) h1
theorem ff_115 (m : api_Msg) (hk : m.Kind_ = 115) (h : m.ok) (hz : ∀ k, k ∈ ([.q, .i] : List Lt) ∨ aN_ k m = true) : ad_ m = some (aO_ [.q, .i] m) := by
 rw [pm_ m hk h, ← aB_ (l := [.q, .i]) (j := [.q, .i]) (m := m) ?_ (by decide)]
 ·rfl
 ·intro k hk' hn
  rcases hz k with h1 | h1
  ·exact absurd h1 hn
  ·exact aH_ k m (by rintro rfl; revert hk' hn; decide) (by rintro rfl; revert hk' hn; decide) h1
theorem ff_116 (m : api_Msg) (hk : m.Kind_ = 116) (h : m.ok) (hz : ∀ k, k ∈ ([.f, .O, .c] : List Lt) ∨ aN_ k m = true) : ad_ m = some (aO_ [.f, .O, .c] m) := by
 rw [pn_ m hk h, ← aB_ (l := [.f, .O, .c, .d]) (j := [.f, .O, .c]) (m := m) ?_ (by decide)]
 ·rfl
 ·intro k hk' hn
  rcases hz k with h1 | h1
  ·exact absurd h1 hn
  ·exact aH_ k m (by rintro rfl; revert hk' hn; decide) (by rintro rfl; revert hk' hn; decide) h1
theorem ff_117 (m : api_Msg) (hk : m.Kind_ = 117) (h : m.ok) (hz : ∀ k, k ∈ ([.d] : List Lt) ∨ aN_ k m = true) : ad_ m = some (aO_ [.d] m) := by
 rw [po_ m hk h, ← aB_ (l := [.f, .O, .c, .d]) (j := [.d]) (m := m) ?_ (by decide)]
 ·rfl
 ·intro k hk' hn
  rcases hz k with h1 | h1
  ·exact absurd h1 hn
  ·exact aH_ k m (by rintro rfl; revert hk' hn; decide) (by rintro rfl; revert hk' hn; decide) h1
theorem ff_118 (m : api_Msg) (hk : m.Kind_ = 118) (h : m.ok) (hz : ∀ k, k ∈ ([.f, .O, .d] : List Lt) ∨ aN_ k m = true) : ad_ m = some (aO_ [.f, .O, .d] m) := by
 rw [pp_ m hk h, ← aB_ (l := [.f, .O, .c, .d]) (j := [.f, .O, .d]) (m := m) ?_ (by decide)]
 ·rfl
 ·intro k hk' hn
  rcases hz k with h1 | h1
  ·exact absurd h1 hn
  ·exact aH_ k m (by rintro rfl; revert hk' hn; decide) (by rintro rfl; revert hk' hn; decide) h1
theorem ff_119 (m : api_Msg) (hk : m.Kind_ = 119) (h : m.ok) (hz : ∀ k, k ∈ ([.c] : List Lt) ∨ aN_ k m = true) : ad_ m = some (aO_ [.c] m) := by
 rw [pq_ m hk h, ← aB_ (l := [.f, .O, .c, .d]) (j := [.c]) (m := m) ?_ (by decide)]
 ·rfl
 ·intro k hk' hn
  rcases hz k with h1 | h1
  ·exact absurd h1 hn
  ·exact aH_ k m (by rintro rfl; revert hk' hn; decide) (by rintro rfl; revert hk' hn; decide) h1
theorem ff_120 (m : api_Msg) (hk : m.Kind_ = 120) (h : m.ok) (hz : ∀ k, k ∈ ([.f] : List Lt) ∨ aN_ k m = true) : ad_ m = some (aO_ [.f] m) := by
 rw [pr_ m hk h, ← aB_ (l := [.f]) (j := [.f]) (m := m) ?_ (by decide)]
 ·exact congrArg some (ck_ .f m).symm
 ·intro k hk' hn
  rcases hz k with h1 | h1
  ·exact absurd h1 hn
  ·exact aH_ k m (by rintro rfl; revert hk' hn; decide) (by rintro rfl; revert hk' hn; decide) h1
theorem ff_121 (m : api_Msg) (hk : m.Kind_ = 121) (h : m.ok) (hz : ∀ k, k ∈ ([] : List Lt) ∨ aN_ k m = true) : ad_ m = some (aO_ [] m) := by
 rw [fields_121 m hk h, ← aB_ (l := [.f]) (j := []) (m := m) ?_ (by decide)]
 ·exact congrArg some (ck_ .f m).symm
 ·intro k hk' hn
  rcases hz k with h1 | h1
  ·exact absurd h1 hn
  ·exact aH_ k m (by rintro rfl; revert hk' hn; decide) (by rintro rfl; revert hk' hn; decide) h1
theorem ff_122 (m : api_Msg) (hk : m.Kind_ = 122) (h : m.ok) (hz : ∀ k, k ∈ ([.f] : List Lt) ∨ aN_ k m = true) : ad_ m = some (aO_ [.f] m) := by
 rw [ps_ m hk h, ← aB_ (l := [.f]) (j := [.f]) (m := m) ?_ (by decide)]
 ·exact congrArg some (ck_ .f m).symm
 ·intro k hk' hn
  rcases hz k with h1 | h1
  ·exact absurd h1 hn
  ·exact aH_ k m (by rintro rfl; revert hk' hn; decide) (by rintro rfl; revert hk' hn; decide) h1
theorem ff_123 (m : api_Msg) (hk : m.Kind_ = 123) (h : m.ok) (hz : ∀ k, k ∈ ([] : List Lt) ∨ aN_ k m = true) : ad_ m = some (aO_ [] m) := by
 rw [fields_123 m hk h, ← aB_ (l := [.f]) (j := []) (m := m) ?_ (by decide)]
 ·exact congrArg some (ck_ .f m).symm
 ·intro k hk' hn
  rcases hz k with h1 | h1
  ·exact absurd h1 hn
  ·exact aH_ k m (by rintro rfl; revert hk' hn; decide) (by rintro rfl; revert hk' hn; decide) h1
theorem ff_124 (m : api_Msg) (hk : m.Kind_ = 124) (h : m.ok) (hz : ∀ k, k ∈ ([.f] : List Lt) ∨ aN_ k m = true) : ad_ m = some (aO_ [.f] m) := by
 rw [pt_ m hk h, ← aB_ (l := [.f]) (j := [.f]) (m := m) ?_ (by decide)]
 ·exact congrArg some (ck_ .f m).symm
 ·intro k hk' hn
  rcases hz k with h1 | h1
  ·exact absurd h1 hn
  ·exact aH_ k m (by rintro rfl; revert hk' hn; decide) (by rintro rfl; revert hk' hn; decide) h1
theorem ff_125 (m : api_Msg) (hk : m.Kind_ = 125) (h : m.ok) (hz : ∀ k, k ∈ ([.S] : List Lt) ∨ aN_ k m = true) : ad_ m = some (aO_ [.S] m) := by
 rw [pu_ m hk h, ← aB_ (l := [.f, .S]) (j := [.S]) (m := m) ?_ (by decide)]
 ·rfl
 ·intro k hk' hn
  rcases hz k with h1 | h1
  ·exact absurd h1 hn
  ·exact aH_ k m (by rintro rfl; revert hk' hn; decide) (by rintro rfl; revert hk' hn; decide) h1
theorem ff_126 (m : api_Msg) (hk : m.Kind_ = 126) (h : m.ok) (hz : ∀ k, k ∈ ([.f, .S] : List Lt) ∨ aN_ k m = true) : ad_ m = some (aO_ [.f, .S] m) := by
 rw [pv_ m hk h, ← aB_ (l := [.f, .S]) (j := [.f, .S]) (m := m) ?_ (by decide)]
 ·rfl
 ·intro k hk' hn
  rcases hz k with h1 | h1
  ·exact absurd h1 hn
  ·exact aH_ k m (by rintro rfl; revert hk' hn; decide) (by rintro rfl; revert hk' hn; decide) h1
theorem ff_127 (m : api_Msg) (hk : m.Kind_ = 127) (h : m.ok) (hz : ∀ k, k ∈ ([] : List Lt) ∨ aN_ k m = true) : ad_ m = some (aO_ [] m) := by
 rw [fields_127 m hk h, ← aB_ (l := [.f]) (j := []) (m := m) ?_ (by decide)]
 ·exact congrArg some (ck_ .f m).symm
 ·intro k hk' hn
  rcases hz k with h1 | h1
  ·exact absurd h1 hn
  ·exact aH_ k m (by rintro rfl; revert hk' hn; decide) (by rintro rfl; revert hk' hn; decide) h1
theorem ff_128 (m : api_Msg) (hk : m.Kind_ = 128) (h : m.ok) (hz : ∀ k, k ∈ ([.f, .l, .t] : List Lt) ∨ aN_ k m = true) : ad_ m = some (aO_ [.f, .l, .t] m) := by
 rw [pw_ m hk h, ← aB_ (l := [.f, .q, .l, .t]) (j := [.f, .l, .t]) (m := m) ?_ (by decide)]
 ·rfl
 ·intro k hk' hn
  rcases hz k with h1 | h1
  ·exact absurd h1 hn
  ·exact aH_ k m (by rintro rfl; revert hk' hn; decide) (by rintro rfl; revert hk' hn; decide) h1
theorem ff_129 (m : api_Msg) (hk : m.Kind_ = 129) (h : m.ok) (hz : ∀ k, k ∈ ([.q, .l, .t] : List Lt) ∨ aN_ k m = true) : ad_ m = some (aO_ [.q, .l, .t] m) := by
 rw [px_ m hk h, ← aB_ (l := [.f, .q, .l, .t]) (j := [.q, .l, .t]) (m := m) ?_ (by decide)]
 ·rfl
 ·intro k hk' hn
  rcases hz k with h1 | h1
  ·exact absurd h1 hn
  ·exact aH_ k m (by rintro rfl; revert hk' hn; decide) (by rintro rfl; revert hk' hn; decide) h1
theorem ff_130 (m : api_Msg) (hk : m.Kind_ = 130) (h : m.ok) (hz : ∀ k, k ∈ ([.s] : List Lt) ∨ aN_ k m = true) : ad_ m = some (aO_ [.s] m) := by
 rw [py_ m hk h, ← aB_ (l := [.s]) (j := [.s]) (m := m) ?_ (by decide)]
 ·exact congrArg some (ck_ .s m).symm
 ·intro k hk' hn
  rcases hz k with h1 | h1
  ·exact absurd h1 hn
  ·exact aH_ k m (by rintro rfl; revert hk' hn; decide) (by rintro rfl; revert hk' hn; decide) h1
theorem ff_131 (m : api_Msg) (hk : m.Kind_ = 131) (h : m.ok) (hz : ∀ k, k ∈ ([] : List Lt) ∨ aN_ k m = true) : ad_ m = some (aO_ [] m) := by
 rw [fields_131 m hk h, ← aB_ (l := [.f]) (j := []) (m := m) ?_ (by decide)]
 ·exact congrArg some (ck_ .f m).symm
 ·intro k hk' hn
  rcases hz k with h1 | h1
  ·exact absurd h1 hn
  ·exact aH_ k m (by rintro rfl; revert hk' hn; decide) (by rintro rfl; revert hk' hn; decide) h1
end Go.Proofs.YtolgkhjkdadhiaaGreat
namespace Go.Proofs.YtolgkhjkdadhiaaGreat
open Go.Rt Go.RowKit
theorem pB_ (k : Int) (hk : k = 100 ∨ k = 101 ∨ k = 102 ∨ k = 103 ∨ k = 104 ∨ k = 105 ∨ k = 107 ∨ k = 108 ∨ k = 109 ∨ k = 110 ∨ k = 111 ∨ k = 112 ∨ k = 113 ∨ k = 114 ∨ k = 115 ∨ k = 116 ∨ k = 117 ∨ k = 118 ∨ k = 119 ∨ k = 120 ∨ k = 121 ∨ k = 122 ∨ k = 123 ∨ k = 124 ∨ k = 125 ∨ k = 126 ∨ k = 127 ∨ k = 128 ∨ k = 129 ∨ k = 130 ∨ k = 131) : eh_ k = br_ k := by
 rcases hk with rfl | rfl | rfl | rfl | rfl | rfl | rfl | rfl | rfl | rfl | rfl | rfl | rfl | rfl | rfl | rfl | rfl | rfl | rfl | rfl | rfl | rfl | rfl | rfl | rfl | rfl | rfl | rfl | rfl | rfl | rfl <;> rfl
theorem nB_ (k : Int) (hk : ¬ (k = 100 ∨ k = 101 ∨ k = 102 ∨ k = 103 ∨ k = 104 ∨ k = 105 ∨ k = 107 ∨ k = 108 ∨ k = 109 ∨ k = 110 ∨ k = 111 ∨ k = 112 ∨ k = 113 ∨ k = 114 ∨ k = 115 ∨ k = 116 ∨ k = 117 ∨ k = 118 ∨ k = 119 ∨ k = 120 ∨ k = 121 ∨ k = 122 ∨ k = 123 ∨ k = 124 ∨ k = 125 ∨ k = 126 ∨ k = 127 ∨ k = 128 ∨ k = 129 ∨ k = 130 ∨ k = 131)) : eh_ k = some [] := by
 simp only [not_or] at hk
 unfold eh_ lL_
 refine ab_ (by simp; omega) ?_
 refine ab_ (by simp; omega) ?_
 refine ab_ (by simp; omega) ?_
 refine ab_ (by simp; omega) ?_
 refine ab_ (by simp; omega) ?_
 refine ab_ (by simp; omega) ?_
 refine ab_ (by simp; omega) ?_
 refine ab_ (by simp; omega) ?_
 refine ab_ (by simp; omega) ?_
 refine ab_ (by simp; omega) ?_
 refine ab_ (by simp; omega) ?_
 refine ab_ (by simp; omega) ?_
 refine ab_ (by simp; omega) ?_
 refine ab_ (by simp; omega) ?_
 refine ab_ (by simp; omega) ?_
 refine ab_ (by simp; omega) ?_
 refine ab_ (by simp; omega) ?_
 refine aa_ (a := []) ?_ rfl
 refine ab_ (by simp; omega) ?_
 refine ab_ (by simp; omega) ?_
 refine ab_ (by simp; omega) ?_
 refine ab_ (by simp; omega) ?_
 refine ab_ (by simp; omega) ?_
 refine ab_ (by simp; omega) ?_
 refine ab_ (by simp; omega) ?_
 refine ab_ (by simp; omega) ?_
 refine ab_ (by simp; omega) ?_
 refine ab_ (by simp; omega) ?_
 refine ab_ (by simp; omega) ?_
 refine ab_ (by simp; omega) ?_
 refine ab_ (by simp; omega) ?_
 refine ab_ (by simp; omega) ?_
 rfl
end Go.Proofs.YtolgkhjkdadhiaaGreat
namespace Go.Proofs.YtolgkhjkdadhiaaGreat
open Go.Rt Go.RowKit
theorem b8_inj {j k : Lt} (h : j.b8 = k.b8) : j = k := by
 have h1 := congrArg UInt8.toNat h
 rw [j.b8_nat, k.b8_nat] at h1
 cases j <;> cases k <;> first | rfl | exact absurd h1 (by decide)
theorem j5_ : ∀ {a b : List Lt}, dM_ a = dM_ b → a = b
 | [], [], _ => rfl
 | [], _ :: _, h => by cases h
 | _ :: _, [], h => by cases h
 | j :: l, k :: l', h => by
  simp only [dM_, List.map_cons, List.cons.injEq] at h
  rw [b8_inj h.1, j5_ h.2]
theorem lay_wr (m : api_Msg) {t : Str} (h : br_ m.Kind_ = some t) (ht : t ≠ []) (hok : m.ok) (hf : ad_ m = some 0) : ∃ l : List Lt, bz_ m.Kind_ = some (dM_ l) ∧ l.length ≤ 100 ∧ fQ_ m = some (cps l m (bW_ m.Kind_ m.Tag_)) ∧ (∀ k ∈ l, Wr m k) ∧ ∃ u, bc_ m.Kind_ 1 = some u ∧ m.Kind_ ≤ 1000 := by
 have hk := ju_ h ht
 obtain ⟨l, h1, _, h2, h3⟩ := lR_ m h ht
 have key : ∀ l' : List Lt, bz_ m.Kind_ = some (dM_ l') → (∀ k ∈ l', Wr m k) → ∀ k ∈ l, Wr m k := fun l' h1' h' => by
  rw [h1'] at h1
  rw [← j5_ (Option.some.inj h1)]
  exact h'
 refine ⟨l, h1, h2, h3, ?_, ?_⟩
 ·rcases hk with hk | hk | hk | hk | hk | hk | hk | hk | hk | hk | hk | hk | hk | hk | hk | hk | hk | hk | hk | hk | hk | hk | hk | hk | hk | hk | hk | hk | hk | hk | hk
  ·exact key [.m, .v] (by rw [hk]; rfl) (wr_100 m hk hok hf)
  ·exact key [.m, .v, .s] (by rw [hk]; rfl) (wr_101 m hk hok hf)
  ·exact key [.a, .u, .x] (by rw [hk]; rfl) (wr_102 m hk hok hf)
  ·exact key [.q] (by rw [hk]; rfl) (wr_103 m hk hok hf)
  ·exact key [.f, .a, .u, .x] (by rw [hk]; rfl) (wr_104 m hk hok hf)
  ·exact key [.q] (by rw [hk]; rfl) (wr_105 m hk hok hf)
  ·exact key [.e] (by rw [hk]; rfl) (wr_107 m hk hok hf)
  ·exact key [.o] (by rw [hk]; rfl) (wr_108 m hk hok hf)
  ·exact key [] (by rw [hk]; rfl) (wr_109 m hk hok hf)
  ·exact key [.f, .n, .w] (by rw [hk]; rfl) (wr_110 m hk hok hf)
  ·exact key [.W] (by rw [hk]; rfl) (wr_111 m hk hok hf)
  ·exact key [.f, .M] (by rw [hk]; rfl) (wr_112 m hk hok hf)
  ·exact key [.q, .i] (by rw [hk]; rfl) (wr_113 m hk hok hf)
  ·exact key [.f, .N, .p, .M] (by rw [hk]; rfl) (wr_114 m hk hok hf)
  ·exact key [.q, .i] (by rw [hk]; rfl) (wr_115 m hk hok hf)
  ·exact key [.f, .O, .c] (by rw [hk]; rfl) (wr_116 m hk hok hf)
  ·exact key [.d] (by rw [hk]; rfl) (wr_117 m hk hok hf)
  ·exact key [.f, .O, .d] (by rw [hk]; rfl) (wr_118 m hk hok hf)
  ·exact key [.c] (by rw [hk]; rfl) (wr_119 m hk hok hf)
  ·exact key [.f] (by rw [hk]; rfl) (wr_120 m hk hok hf)
  ·exact key [] (by rw [hk]; rfl) (wr_121 m hk hok hf)
  ·exact key [.f] (by rw [hk]; rfl) (wr_122 m hk hok hf)
  ·exact key [] (by rw [hk]; rfl) (wr_123 m hk hok hf)
  ·exact key [.f] (by rw [hk]; rfl) (wr_124 m hk hok hf)
  ·exact key [.S] (by rw [hk]; rfl) (wr_125 m hk hok hf)
  ·exact key [.f, .S] (by rw [hk]; rfl) (wr_126 m hk hok hf)
  ·exact key [] (by rw [hk]; rfl) (wr_127 m hk hok hf)
  ·exact key [.f, .l, .t] (by rw [hk]; rfl) (wr_128 m hk hok hf)
  ·exact key [.q, .l, .t] (by rw [hk]; rfl) (wr_129 m hk hok hf)
  ·exact key [.s] (by rw [hk]; rfl) (wr_130 m hk hok hf)
  ·exact key [] (by rw [hk]; rfl) (wr_131 m hk hok hf)
 ·have : 0 ≤ m.Kind_ ∧ m.Kind_ ≤ 255 := by omega
  obtain ⟨u, hu⟩ := be_ (n := m.Kind_) (w := 1) (by omega) (by omega)
  exact ⟨u, hu, by omega⟩
theorem tagged_enc (m : api_Msg) (h : cj_ m = some true) : (∃ t, bc_ m.Tag_ 2 = some t) ∧ m.Tag_ ≤ 65535 := by
 have key : 0 ≤ m.Tag_ ∧ m.Tag_ ≤ 65535 := by
  unfold cj_ at h
  cases h1 : (m.Kind_ == 100) <;> cases h2 : (m.Kind_ == 101) <;> cases h3 : (m.Kind_ == 107) <;> rw [h1, h2, h3] at h <;> simp at h <;> omega
 exact ⟨be_ (by omega) (by omega), key.2⟩
theorem pC_ (m : api_Msg) (hok : m.ok) (h : aX_ m = some 0) : ∃ (l : List Lt) (nm : Str), br_ m.Kind_ = some nm ∧ (nm == []) = false ∧ bz_ m.Kind_ = some (dM_ l) ∧ l.length ≤ 100 ∧ m = cps l m (bW_ m.Kind_ m.Tag_) ∧ (∀ k ∈ l, Wr m k) ∧ (∃ u, bc_ m.Kind_ 1 = some u) ∧ (∃ u, bc_ m.Tag_ 2 = some u) ∧ m.Kind_ ≤ 1000 ∧ m.Tag_ ≤ 65535 := by
 unfold aX_ at h
 obtain ⟨nm, e1⟩ := Option.get_some (eR_ m.Kind_)
 rw [e1, Option.bind_some] at h
 cases hn : (nm == []) with
 | true => rw [hn] at h; cases h
 | false =>
  rw [hn, cond_false] at h
  have hne : nm ≠ [] := by simpa using hn
  obtain ⟨g, e2⟩ := Option.get_some (iB_ m)
  rw [e2, Option.bind_some] at h
  cases g with
  | false => cases h
  | true =>
   obtain ⟨l0, _, _, _, e3⟩ := lR_ m e1 hne
   rw [e3, Option.bind_some] at h
   have hx := ky_ l0 hok.small.1 hok.small.2.2.1 (m := bW_ m.Kind_ m.Tag_) (by simp [bW_]) (by simp [bW_])
   rw [same_eq _ m hx.1 hx.2, Option.bind_some] at h
   cases hd : decide (cps l0 m (bW_ m.Kind_ m.Tag_) = m) with
   | false => rw [hd] at h; cases h
   | true =>
    rw [hd] at h
    have hf : ad_ m = some 0 := by
     obtain ⟨c, ec⟩ := Option.get_some (nx_ m hok.small)
     rw [ec] at h ⊢
     exact h
    obtain ⟨l, e4, e5, e6, e7, u, e8, e9⟩ := lay_wr m e1 hne hok hf
    obtain ⟨e10, e11⟩ := tagged_enc m e2
    rw [e6] at e3
    refine ⟨l, nm, e1, hn, e4, e5, ?_, e7, ⟨u, e8⟩, e10, e9, e11⟩
    rw [Option.some.inj e3]
    exact (of_decide_eq_true hd).symm
theorem gX_ {n : Int} {w : Nat} {t : Str} (h : bc_ n w = some t) : t.length = w := by rw [(mJ_ h).2, ap_]
theorem j6_ {α : Type} {f : α → Option Str} (B : Nat) (hf : ∀ x t, f x = some t → t.length ≤ B) : ∀ {l : List α} {t : Str}, cn_ f l = some t → t.length ≤ B * l.length
 | [], t, h => by cases h; simp
 | x :: l, t, h => by
  obtain ⟨u, v, e1, e2, rfl⟩ := eS_ h
  have h1 := hf x u e1
  have h2 := j6_ B hf e2
  rw [List.length_append, List.length_cons, Nat.mul_add]
  omega
theorem encT_len {s t : Str} (h : b6_ s = some t) : t.length ≤ 65537 := by
 obtain ⟨h1, rfl⟩ := iR_ h
 rw [b4_]; omega
theorem encQ_len {q : api_Qid} {t : Str} (h : dL_ q = some t) : t.length ≤ 13 := by
 obtain ⟨_, _, _, rfl⟩ := kz_ h
 simp [ap_]
theorem encF_len (k : Lt) (m : api_Msg) {t : Str} (h : encF k m = some t) : t.length ≤ 17179869184 := by
 have N : ∀ {n : Int} {w : Nat}, w ≤ 8 → bc_ n w = some t → t.length ≤ 17179869184 := fun hw h => by have := gX_ h; omega
 have T : ∀ {s : Str}, b6_ s = some t → t.length ≤ 17179869184 := fun h => by have := encT_len h; omega
 cases k with
 | v => exact T h
 | s => exact T h
 | u => exact T h
 | x => exact T h
 | e => exact T h
 | N => exact T h
 | q => have := encQ_len (q := m.Qid_) h; omega
 | w =>
  obtain ⟨h1, b, h2, rfl⟩ := dR_ (f := b6_) (l := m.Names_) h
  have h3 := j6_ 65537 (fun _ _ h => encT_len h) h2
  have h4 : 65537 * m.Names_.length ≤ 65537 * 65535 := Nat.mul_le_mul_left _ h1
  rw [List.length_append, ap_]; omega
 | W =>
  obtain ⟨h1, b, h2, rfl⟩ := dR_ (f := dL_) (l := m.Qids_) h
  have h3 := j6_ 13 (fun _ _ h => encQ_len h) h2
  rw [List.length_append, ap_]; omega
 | d =>
  obtain ⟨h1, rfl⟩ := kA_ (s := m.Data_) h
  unfold bx_ at h1
  simp only [Bool.and_eq_true, Bool.or_eq_true, decide_eq_true_eq] at h1
  rw [List.length_append, ap_]; omega
 | S =>
  obtain ⟨h1, rfl⟩ := iS_ (d := m.Stat_) h
  obtain ⟨l1, l2, l3, l4⟩ := eQ_ m.Stat_ (di_ m.Stat_ h1).2
  rw [List.length_append, ap_, j1_]; omega
 | _ => exact N (by omega) h
theorem get_back (m : api_Msg) (p q t : Str) (l : List Lt) (nm : Str) (hc : aX_ m = some 0) (e1 : br_ m.Kind_ = some nm) (hn : (nm == []) = false) (e2 : bz_ m.Kind_ = some (dM_ l)) (hl : l.length ≤ 100) (hm : m = cps l m (bW_ m.Kind_ m.Tag_)) (hw : ∀ k ∈ l, Wr m k)
  (hk : m.Kind_ ≤ 1000) (hg : m.Tag_ ≤ 65535) (he : app2 (bc_ m.Kind_ 1) (app2 (bc_ m.Tag_ 2) (encA l m)) = some t) (ht : t.length + 4 ≤ 8192) (hp : p.length ≤ 1000) (hq : q.length ≤ 1000) :
  bS_ (p ++ (leB ((t.length + 4 : Nat) : Int) 4 ++ t) ++ q) (p.length : Int) = some (m, ((p.length + (t.length + 4) : Nat) : Int), 0) := by
 obtain ⟨t1, u, k1, ku, htu⟩ := fZ_ he
 obtain ⟨t2, t3, k2, k3, rfl⟩ := fZ_ ku
 have n1 := gX_ k1
 have n2 := gX_ k2
 have hB : BIG = 18446744073709551616 := rfl
 generalize hz : t.length + 4 = z at ht ⊢
 have hz7 : 7 ≤ z := by rw [← hz, htu]; simp only [List.length_append]; omega
 have hb4 : (leB (z : Int) 4).length = 4 := ap_ _ _
 generalize hy : leB (z : Int) 4 ++ t = y
 have hyl : y.length = z := by rw [← hy, List.length_append, hb4]; omega
 have hsl : (p ++ y ++ q).length = p.length + z + q.length := by simp [hyl]; omega
 have hwin : win (p ++ y ++ q) p.length z = y := dD_ _ p y q _ _ rfl rfl hyl
 have hwin4 : win (p ++ y ++ q) p.length 4 = leB (z : Int) 4 := dD_ _ p (leB (z : Int) 4) (t ++ q) _ _ (by rw [← hy]; simp [List.append_assoc]) rfl hb4
 have e0 := fW_ (p ++ y ++ q) p.length 4 (by omega) (by omega) (by omega) (by omega)
 rw [hwin4, ib_ 4 z (by omega), if_neg (by omega), if_neg (by omega)] at e0
 have hat : At y 4 t := by
  refine ⟨?_, by omega⟩
  exact dD_ y (leB (z : Int) 4) t [] 4 t.length (by rw [← hy]; simp) hb4 rfl
 rw [htu] at hat
 obtain ⟨a1, a23⟩ := hat.split
 obtain ⟨a2, a3⟩ := a23.split
 rw [n1] at a2 a3
 rw [n2] at a3
 have b1 := eM_ (w := 1) (by omega) (by omega) k1 (by omega) a1 (by omega)
 have b2 := eM_ (w := 2) (by omega) (by omega) k2 (by omega) a2 (by omega)
 have b3 := bloop y (by omega) l hl m l BIG 0 (4 + 1 + 2) (bW_ m.Kind_ m.Tag_) t3 rfl (by omega) (by omega) k3 (fun k hk => (hw k hk).2) a3
 rw [← hm] at b3
 rw [n1] at b1
 rw [n2] at b2
 have hend : 4 + 1 + 2 + t3.length = z := by rw [← hz, htu]; simp only [List.length_append]; omega
 rw [hend] at b3
 have es := db_ (p ++ y ++ q) p.length z (by omega) (by omega)
 rw [hwin] at es
 have el : w64 (((p ++ y ++ q).length : Int) - (p.length : Int)) = (((p ++ y ++ q).length - p.length : Nat) : Int) := by rw [am_ ⟨by omega, by omega⟩]; omega
 have h3 : decide ((z : Int) > 8192) = false := by simp; omega
 have h4 : decide ((z : Int) < 7) = false := by simp; omega
 have h5 : decide ((z : Int) > w64 (((p ++ y ++ q).length : Int) - (p.length : Int))) = false := by rw [el]; simp; omega
 unfold bS_
 refine aa_ e0 (ab_ rfl (ab_ h3 (ab_ h4 (ab_ h5 (aa_ es (aa_ b1 (aa_ b2 (aa_ e2 (aa_ b3 (aa_ e1 (ab_ ?_ (aa_ hc (ab_ rfl ?_)))))))))))))
 ·show (((nm == []) || (!true)) || ((z : Int) != (z : Int))) = false
  rw [hn]; simp
 ·show some (m, w64 ((p.length : Int) + (z : Int)), (0 : Int)) = _
  rw [am_ ⟨by omega, by omega⟩]
  rfl
theorem fit_msg (x : api_Msg) (h : Fit te (.st 2) x) : x.ok := by
 have h1 := h 1
 obtain ⟨k1, k2, k3, k4, k5, k6, k7, t1, t2, t3, ⟨nl, nm⟩, ⟨ql, qm⟩, q1, q2, q3, i1, i2, i3, t4, i4, i5, t5, d1, d2, d3, d4, d5, d6, d7, d8, d9, s1, s2, s3, s4, e1, e2, e3, t6, _⟩ := h1
 refine ⟨⟨nl, fun s hs => (nm s hs).1, ql, t4, d1, d2, ⟨d3, d4, d5⟩, d6, d7, d8, d9, s1, s2, s3, s4⟩, fun q hq => ?_, q1, q2, q3⟩
 obtain ⟨a, b, c, _⟩ := qm q hq
 exact ⟨a, b, c⟩
end Go.Proofs.YtolgkhjkdadhiaaGreat
namespace Go.Proofs.YtolgkhjkdadhiaaGreat
open Go.Rt Go.RowKit
theorem reftag_eq (m : api_Msg) : ∃ b, cj_ m = some b ∧ iJ_ m = some (if b then 0 else 5) := by
 unfold cj_ iJ_
 by_cases h1 : m.Kind_ = 100
 ·refine ⟨m.Tag_ == 65535, aa_ (a := true) (ac_ (by simp [h1]) (by simp [h1])) (ac_ rfl rfl), ?_⟩
  by_cases h2 : m.Tag_ = 65535
  ·refine ab_ (by simp [h1, h2]) (ab_ (by simp [h1]) (by simp [h2]))
  ·refine ac_ (by simp [h1, h2]) (by simp [h2])
 ·by_cases h3 : m.Kind_ = 101
  ·refine ⟨m.Tag_ == 65535, aa_ (a := true) (ab_ (by simp [h1]) (by simp [h3])) (ac_ rfl rfl), ?_⟩
   by_cases h2 : m.Tag_ = 65535
   ·refine ab_ (by simp [h3, h2]) (ab_ (by simp [h3]) (by simp [h2]))
   ·refine ac_ (by simp [h3, h2]) (by simp [h2])
  ·have e0 : (bif (m.Kind_ == 100) then some (m.Kind_ == 100) else some (m.Kind_ == 101)) = some false := ab_ (by simp [h1]) (by simp [h3])
   by_cases h4 : m.Kind_ = 107
   ·by_cases h2 : 0 ≤ m.Tag_ ∧ m.Tag_ ≤ 65535
    ·refine ⟨true, aa_ e0 (ab_ rfl (ac_ (by simp [h4]) ?_)), ab_ ?_ (ab_ ?_ rfl)⟩
     ·rw [show decide (m.Tag_ ≥ 0) = true by simp; omega, show decide (m.Tag_ ≤ 65535) = true by simp; omega]; rfl
     ·simp [h1, h3]; omega
     ·simp [h4]
    ·refine ⟨false, aa_ e0 (ab_ rfl (ac_ (by simp [h4]) ?_)), ac_ ?_ rfl⟩
     ·by_cases h5 : 0 ≤ m.Tag_
      ·rw [show decide (m.Tag_ ≤ 65535) = false by simp; omega]; simp
      ·rw [show decide (m.Tag_ ≥ 0) = false by simp; omega]; simp
     ·simp [h1, h3]; omega
   ·by_cases h2 : 0 ≤ m.Tag_ ∧ m.Tag_ ≤ 65534
    ·refine ⟨true, aa_ e0 (ab_ rfl (ab_ (by simp [h4]) ?_)), ab_ ?_ (ab_ ?_ rfl)⟩
     ·rw [show decide (m.Tag_ ≥ 0) = true by simp; omega, show decide (m.Tag_ ≤ 65534) = true by simp; omega]; rfl
     ·simp [h1, h3]; omega
     ·simp [h1, h3, h4]; omega
    ·refine ⟨false, aa_ e0 (ab_ rfl (ab_ (by simp [h4]) ?_)), ?_⟩
     ·by_cases h5 : 0 ≤ m.Tag_
      ·rw [show decide (m.Tag_ ≤ 65534) = false by simp; omega]; simp
      ·rw [show decide (m.Tag_ ≥ 0) = false by simp; omega]; simp
     ·by_cases h6 : 0 ≤ m.Tag_ ∧ m.Tag_ ≤ 65535
      ·exact ab_ (by simp [h1, h3]; omega) (ac_ (by simp [h1, h3, h4]; omega) rfl)
      ·exact ac_ (by simp [h1, h3]; omega) rfl
theorem refloop1 (m : api_Msg) (l : List Lt) (hl : l.length ≤ 100) (hf : cQ_ m.Kind_ = some (refB l)) : an_ (eE_ m) BIG 0 = some (match allL.findSome? (fun k => if k ∈ l ∨ aN_ k m = true then none else some (2 : Int)) with | none => .fall () | some r => .ret r) := by
 refine (cd_ (body := eE_ m) allL (fun k => if k ∈ l ∨ aN_ k m = true then none else some (2 : Int)) (by decide) (fun i hi => ?_) ?_).trans ?_
 ·have hi' : i < 23 := hi
  unfold eE_
  obtain ⟨u, hu, hv⟩ : ∃ u, hr_ m.Kind_ (allL[i].ref : Int) = some u ∧ (u = true ↔ allL[i] ∈ l) := ⟨_, uses_eq m.Kind_ l _ hf hl, decide_eq_true_iff⟩
  refine ac_ (by simp; omega) (aa_ (kF_ allL i hi) (aa_ hu ?_))
  rw [am_ (n := (i : Int) + 1) ⟨by omega, by omega⟩]
  cases u with
  | true =>
   have h := hv.1 rfl
   rw [if_pos (.inl h)]
   exact aa_ rfl (ab_ rfl rfl)
  | false =>
   have h : ¬ allL[i] ∈ l := fun hc => by have := hv.2 hc; cases this
   have e := kF_ allL i hi
   cases hz : aN_ allL[i] m with
   | true =>
    rw [if_pos (.inr rfl)]
    exact aa_ (a := false) (ac_ rfl (aa_ e (aa_ (pA_ _ m) (congrArg (fun b => some !b) hz)))) (ab_ rfl rfl)
   | false =>
    rw [if_neg (fun hc => hc.elim h (fun hz' => absurd hz' Bool.false_ne_true))]
    exact aa_ (a := true) (ac_ rfl (aa_ e (aa_ (pA_ _ m) (congrArg (fun b => some !b) hz)))) (ac_ rfl rfl)
 ·unfold eE_
  exact ab_ rfl rfl
 ·cases allL.findSome? (fun k => if k ∈ l ∨ aN_ k m = true then none else some (2 : Int)) <;> rfl
abbrev lc_ (k : Int) : Prop := k = 100 ∨ k = 101 ∨ k = 102 ∨ k = 103 ∨ k = 104 ∨ k = 105 ∨ k = 107 ∨ k = 108 ∨ k = 109 ∨ k = 110 ∨ k = 111 ∨ k = 112 ∨ k = 113 ∨ k = 114 ∨ k = 115 ∨ k = 116 ∨ k = 117 ∨ k = 118 ∨ k = 119 ∨ k = 120 ∨ k = 121 ∨ k = 122 ∨ k = 123 ∨ k = 124 ∨ k = 125 ∨ k = 126 ∨ k = 127 ∨ k = 128 ∨ k = 129 ∨ k = 130 ∨ k = 131
theorem name_out (k : Int) (hk : ¬ lc_ k) : br_ k = some [] := by
 obtain ⟨t, ht⟩ := Option.get_some (eR_ k)
 by_cases h : t = []
 ·rw [ht, h]
 ·exact absurd (ju_ ht h) hk
theorem mK_ (m : api_Msg) (hk : lc_ m.Kind_) (h : m.ok) : ∃ (l : List Lt) (t : Str), br_ m.Kind_ = some t ∧ (t == []) = false ∧ l.length ≤ 100 ∧ bz_ m.Kind_ = some (dM_ l) ∧ cQ_ m.Kind_ = some (refB l) ∧ cR_ m.Kind_ = some (l.map Lt.num, true) ∧
  fQ_ m = some (cps l m (bW_ m.Kind_ m.Tag_)) ∧ ((∀ k, k ∈ l ∨ aN_ k m = true) → ad_ m = some (aO_ l m)) := by
 obtain ⟨t, ht, hne⟩ : ∃ t, br_ m.Kind_ = some t ∧ (t == []) = false := by
  rcases hk with hk | hk | hk | hk | hk | hk | hk | hk | hk | hk | hk | hk | hk | hk | hk | hk | hk | hk | hk | hk | hk | hk | hk | hk | hk | hk | hk | hk | hk | hk | hk <;> (rw [hk]; exact ⟨_, rfl, rfl⟩)
 obtain ⟨l', h1, _, _, h3⟩ := lR_ m ht (by simpa using hne)
 have key : ∀ l : List Lt, l.length ≤ 100 → bz_ m.Kind_ = some (dM_ l) → cQ_ m.Kind_ = some (refB l) → cR_ m.Kind_ = some (l.map Lt.num, true) → ((∀ k, k ∈ l ∨ aN_ k m = true) → ad_ m = some (aO_ l m)) →
   ∃ (l : List Lt) (t : Str), br_ m.Kind_ = some t ∧ (t == []) = false ∧ l.length ≤ 100 ∧ bz_ m.Kind_ = some (dM_ l) ∧ cQ_ m.Kind_ = some (refB l) ∧ cR_ m.Kind_ = some (l.map Lt.num, true) ∧
  fQ_ m = some (cps l m (bW_ m.Kind_ m.Tag_)) ∧ ((∀ k, k ∈ l ∨ aN_ k m = true) → ad_ m = some (aO_ l m)) := fun l a b c d e => by
  rw [b] at h1
  rw [← j5_ (Option.some.inj h1)] at h3
  exact ⟨l, t, ht, hne, a, b, c, d, h3, e⟩
 rcases hk with hk | hk | hk | hk | hk | hk | hk | hk | hk | hk | hk | hk | hk | hk | hk | hk | hk | hk | hk | hk | hk | hk | hk | hk | hk | hk | hk | hk | hk | hk | hk
 ·exact key [.m, .v] (by decide) (by rw [hk]; rfl) (by rw [hk]; rfl) (by rw [hk]; rfl) (ff_100 m hk h)
 ·exact key [.m, .v, .s] (by decide) (by rw [hk]; rfl) (by rw [hk]; rfl) (by rw [hk]; rfl) (ff_101 m hk h)
 ·exact key [.a, .u, .x] (by decide) (by rw [hk]; rfl) (by rw [hk]; rfl) (by rw [hk]; rfl) (ff_102 m hk h)
 ·exact key [.q] (by decide) (by rw [hk]; rfl) (by rw [hk]; rfl) (by rw [hk]; rfl) (ff_103 m hk h)
 ·exact key [.f, .a, .u, .x] (by decide) (by rw [hk]; rfl) (by rw [hk]; rfl) (by rw [hk]; rfl) (ff_104 m hk h)
 ·exact key [.q] (by decide) (by rw [hk]; rfl) (by rw [hk]; rfl) (by rw [hk]; rfl) (ff_105 m hk h)
 ·exact key [.e] (by decide) (by rw [hk]; rfl) (by rw [hk]; rfl) (by rw [hk]; rfl) (ff_107 m hk h)
 ·exact key [.o] (by decide) (by rw [hk]; rfl) (by rw [hk]; rfl) (by rw [hk]; rfl) (ff_108 m hk h)
 ·exact key [] (by decide) (by rw [hk]; rfl) (by rw [hk]; rfl) (by rw [hk]; rfl) (ff_109 m hk h)
 ·exact key [.f, .n, .w] (by decide) (by rw [hk]; rfl) (by rw [hk]; rfl) (by rw [hk]; rfl) (ff_110 m hk h)
 ·exact key [.W] (by decide) (by rw [hk]; rfl) (by rw [hk]; rfl) (by rw [hk]; rfl) (ff_111 m hk h)
 ·exact key [.f, .M] (by decide) (by rw [hk]; rfl) (by rw [hk]; rfl) (by rw [hk]; rfl) (ff_112 m hk h)
 ·exact key [.q, .i] (by decide) (by rw [hk]; rfl) (by rw [hk]; rfl) (by rw [hk]; rfl) (ff_113 m hk h)
 ·exact key [.f, .N, .p, .M] (by decide) (by rw [hk]; rfl) (by rw [hk]; rfl) (by rw [hk]; rfl) (ff_114 m hk h)
 ·exact key [.q, .i] (by decide) (by rw [hk]; rfl) (by rw [hk]; rfl) (by rw [hk]; rfl) (ff_115 m hk h)
 ·exact key [.f, .O, .c] (by decide) (by rw [hk]; rfl) (by rw [hk]; rfl) (by rw [hk]; rfl) (ff_116 m hk h)
 ·exact key [.d] (by decide) (by rw [hk]; rfl) (by rw [hk]; rfl) (by rw [hk]; rfl) (ff_117 m hk h)
 ·exact key [.f, .O, .d] (by decide) (by rw [hk]; rfl) (by rw [hk]; rfl) (by rw [hk]; rfl) (ff_118 m hk h)
 ·exact key [.c] (by decide) (by rw [hk]; rfl) (by rw [hk]; rfl) (by rw [hk]; rfl) (ff_119 m hk h)
 ·exact key [.f] (by decide) (by rw [hk]; rfl) (by rw [hk]; rfl) (by rw [hk]; rfl) (ff_120 m hk h)
 ·exact key [] (by decide) (by rw [hk]; rfl) (by rw [hk]; rfl) (by rw [hk]; rfl) (ff_121 m hk h)
 ·exact key [.f] (by decide) (by rw [hk]; rfl) (by rw [hk]; rfl) (by rw [hk]; rfl) (ff_122 m hk h)
 ·exact key [] (by decide) (by rw [hk]; rfl) (by rw [hk]; rfl) (by rw [hk]; rfl) (ff_123 m hk h)
 ·exact key [.f] (by decide) (by rw [hk]; rfl) (by rw [hk]; rfl) (by rw [hk]; rfl) (ff_124 m hk h)
 ·exact key [.S] (by decide) (by rw [hk]; rfl) (by rw [hk]; rfl) (by rw [hk]; rfl) (ff_125 m hk h)
 ·exact key [.f, .S] (by decide) (by rw [hk]; rfl) (by rw [hk]; rfl) (by rw [hk]; rfl) (ff_126 m hk h)
 ·exact key [] (by decide) (by rw [hk]; rfl) (by rw [hk]; rfl) (by rw [hk]; rfl) (ff_127 m hk h)
 ·exact key [.f, .l, .t] (by decide) (by rw [hk]; rfl) (by rw [hk]; rfl) (by rw [hk]; rfl) (ff_128 m hk h)
 ·exact key [.q, .l, .t] (by decide) (by rw [hk]; rfl) (by rw [hk]; rfl) (by rw [hk]; rfl) (ff_129 m hk h)
 ·exact key [.s] (by decide) (by rw [hk]; rfl) (by rw [hk]; rfl) (by rw [hk]; rfl) (ff_130 m hk h)
 ·exact key [] (by decide) (by rw [hk]; rfl) (by rw [hk]; rfl) (by rw [hk]; rfl) (ff_131 m hk h)
def chk (nm : Str) (b : Bool) (l : List Lt) (m : api_Msg) : Int := bif nm == [] then 2 else bif !b then 5 else bif (allL.all fun k => decide (k ∈ l) || aN_ k m) then aO_ l m else 2
theorem all_find (l : List Lt) (m : api_Msg) : allL.findSome? (fun k => if k ∈ l ∨ aN_ k m = true then none else some (2 : Int)) = bif (allL.all fun k => decide (k ∈ l) || aN_ k m) then none else some 2 := by
 generalize allL = xs
 induction xs with
 | nil => rfl
 | cons k xs ih =>
  rw [List.findSome?_cons, List.all_cons, ih]
  by_cases h : k ∈ l ∨ aN_ k m = true
  ·have : (decide (k ∈ l) || aN_ k m) = true := by simpa using h
   rw [if_pos h, this]; rfl
  ·have : (decide (k ∈ l) || aN_ k m) = false := by simpa using h
   rw [if_neg h, this]; rfl
theorem refcheck_in (m : api_Msg) (h : m.ok) (l : List Lt) (nm : Str) (b : Bool) (e1 : eh_ m.Kind_ = some nm) (e2 : iJ_ m = some (if b then 0 else 5)) (hl : l.length ≤ 100) (hf : cQ_ m.Kind_ = some (refB l)) : ch_ m = some (chk nm b l m) := by
 unfold ch_ chk
 refine aa_ e1 ?_
 cases nm == [] with
 | true => rfl
 | false =>
  refine ab_ rfl (aa_ e2 ?_)
  cases b with
  | false => rfl
  | true =>
   refine ab_ rfl (aa_ (refloop1 m l hl hf) ?_)
   rw [all_find]
   cases (allL.all fun k => decide (k ∈ l) || aN_ k m) with
   | false => rfl
   | true =>
    refine aa_ hf (aa_ (refloop2 m h l hl) ?_)
    unfold aO_
    cases l.findSome? (fun k => ce_ (dE_ k m)) <;> rfl
theorem n3_ (m : api_Msg) (h : m.ok) (l : List Lt) (nm : Str) (b : Bool) (e1 : br_ m.Kind_ = some nm) (e2 : cj_ m = some b) (e3 : fQ_ m = some (cps l m (bW_ m.Kind_ m.Tag_))) (e4 : (∀ k, k ∈ l ∨ aN_ k m = true) → ad_ m = some (aO_ l m)) : aX_ m = some (chk nm b l m) := by
 have hx := ky_ l h.small.1 h.small.2.2.1 (m := bW_ m.Kind_ m.Tag_) (by simp [bW_]) (by simp [bW_])
 unfold aX_ chk
 refine aa_ e1 ?_
 cases nm == [] with
 | true => rfl
 | false =>
  refine ab_ rfl (aa_ e2 ?_)
  cases b with
  | false => rfl
  | true =>
   refine ab_ rfl (aa_ e3 (aa_ (same_eq _ m hx.1 hx.2) ?_))
   cases ha : (allL.all fun k => decide (k ∈ l) || aN_ k m) with
   | false =>
    have : ¬ cps l m (bW_ m.Kind_ m.Tag_) = m := by
     rw [only_iff]
     intro hc
     have : (allL.all fun k => decide (k ∈ l) || aN_ k m) = true := by
      rw [List.all_eq_true]
      intro k _
      simpa using hc k
     rw [this] at ha; cases ha
    exact ac_ (by simpa using this) rfl
   | true =>
    have hc : ∀ k, k ∈ l ∨ aN_ k m = true := fun k => by
     have := List.all_eq_true.1 ha k (mem_all k)
     simpa using this
    refine ab_ (by simpa using (only_iff l m).2 hc) (aa_ (e4 hc) rfl)
theorem lV_ (m : api_Msg) (h : m.ok) : ch_ m = aX_ m := by
 obtain ⟨b, e1, e2⟩ := reftag_eq m
 by_cases hk : lc_ m.Kind_
 ·obtain ⟨l, nm, e3, _, hl, _, hf, _, e4, e5⟩ := mK_ m hk h
  rw [refcheck_in m h l nm b ((pB_ _ hk).trans e3) e2 hl hf, n3_ m h l nm b e3 e1 e4 e5]
 ·unfold ch_ aX_
  rw [nB_ _ hk, name_out _ hk]
  rfl
end Go.Proofs.YtolgkhjkdadhiaaGreat
namespace Go.Proofs.YtolgkhjkdadhiaaGreat
open Go.Rt Go.RowKit
theorem number_loop (s : Str) (at_ w : Nat) (h1 : 1 ≤ w) (h8 : w ≤ 8) (h : at_ + w ≤ s.length) (hs : s.length ≤ 9223372036854775807) :
  an_ (ei_ s (at_ : Int)) BIG (0, true, w64 ((w : Int) - 1)) = some ((if leV (win s at_ w) > 9223372036854775807 then 9223372036854775807 else (leV (win s at_ w) : Int)), el_ (win s at_ w)) := by
 have hB : BIG = 18446744073709551616 := rfl
 let V : Nat → Nat := fun j => leV ((win s at_ w).drop (w - j))
 let C : Nat → Bool := fun j => el_ ((win s at_ w).drop (w - j))
 let R : Nat → Int := fun j => if V j > 9223372036854775807 then 9223372036854775807 else (V j : Int)
 have hw := fU_ (body := ei_ s (at_ : Int)) (fun j => (R j, C j, (w : Int) - 1 - (j : Int))) w (by omega) (b := (R w, C w)) (fun j hj => ?_) ?_
 ·have e : (win s at_ w).drop (w - 0) = [] := List.drop_eq_nil_of_le (by rw [by_ h]; omega)
  have e2 : (win s at_ w).drop (w - w) = win s at_ w := by simp
  have r0 : R 0 = 0 := by simp only [R, V, e, leV]; rfl
  have c0 : C 0 = true := by simp only [C, e]; rfl
  simp only [r0, c0] at hw
  rw [am_ ⟨by omega, by omega⟩]
  simp only [R, V, C, e2] at hw
  simpa using hw
 ·unfold ei_
  have hlt : V j < 2 ^ (8 * j) := by
   have := fV_ ((win s at_ w).drop (w - j))
   rwa [show ((win s at_ w).drop (w - j)).length = j by rw [List.length_drop, by_ h]; omega] at this
  have hpw : 2 ^ (8 * j) ≤ 2 ^ 56 := Nat.pow_le_pow_right (by omega) (by omega)
  have hRj : R j = (V j : Int) := by simp only [R]; rw [if_neg (by omega)]
  have ei : w64 ((at_ : Int) + ((w : Int) - 1 - (j : Int))) = ((at_ + (w - 1 - j) : Nat) : Int) := by
   rw [am_ ⟨by omega, by omega⟩]; omega
  have hby := eu_ (s := s) (i := at_ + (w - 1 - j)) (by omega)
  have hV : V (j + 1) = (s[at_ + (w - 1 - j)]'(by omega)).toNat + 256 * V j := by simp only [V]; rw [lP_ h hj]; rfl
  have hC : C (j + 1) = ((s[at_ + (w - 1 - j)]'(by omega)) == 255 && C j) := by simp only [C]; rw [lP_ h hj]; rfl
  generalize s[at_ + (w - 1 - j)]'(by omega) = b at hby hV hC
  have hb := b.toNat_lt
  have hb255 : (((b.toNat : Nat) : Int) == 255) = (b == 255) := by
   rw [Bool.eq_iff_iff]
   simp only [beq_iff_eq]
   constructor
   ·intro hh
    apply UInt8.toNat_inj.1
    show b.toNat = 255
    omega
   ·intro hh
    rw [hh]; rfl
  refine ac_ (by simp; omega) ?_
  refine aa_ (a := (R (j + 1), C (j + 1))) ?_ ?_
  ·refine aa_ (a := C (j + 1)) ?_ ?_
   ·show (bif C j then Option.bind (bV_ s (w64 ((at_ : Int) + ((w : Int) - 1 - (j : Int))))) _ else some false) = _
    cases hc : C j with
    | true =>
     refine ac_ rfl ?_
     rw [ei]
     refine aa_ hby ?_
     rw [hb255, hC, hc, Bool.and_true]
    | false =>
     refine ab_ rfl ?_
     rw [hC, hc, Bool.and_false]
   ·show (bif decide (R j ≥ 36028797018963968) then _ else _) = _
    by_cases hs55 : V j ≥ 36028797018963968
    ·refine ac_ (by rw [hRj]; simp; omega) ?_
     have hR : R (j + 1) = 9223372036854775807 := by simp only [R]; rw [if_pos (by omega)]
     rw [hR]
    ·refine ab_ (by rw [hRj]; simp; omega) ?_
     show Option.bind (bV_ s (w64 ((at_ : Int) + ((w : Int) - 1 - (j : Int))))) _ = _
     rw [ei]
     refine aa_ hby ?_
     have hR : R (j + 1) = ((b.toNat + 256 * V j : Nat) : Int) := by simp only [R]; rw [if_neg (by omega), hV]
     rw [hR, hRj, am_ (n := (V j : Int) * 256) ⟨by omega, by omega⟩, am_ (n := (b.toNat : Int)) ⟨by omega, by omega⟩, am_ (n := (V j : Int) * 256 + (b.toNat : Int)) ⟨by omega, by omega⟩]
     congr 2
     omega
  ·show some (Step.next (R (j + 1), C (j + 1), w64 ((w : Int) - 1 - (j : Int) - 1))) = _
   rw [am_ ⟨by omega, by omega⟩]
   congr 4
   omega
 ·unfold ei_
  exact ab_ (by simp; omega) rfl
theorem rt_ (s : Str) (at_ w : Nat) (h1 : 1 ≤ w) (h8 : w ≤ 8) (h : at_ + w ≤ s.length) (hs : s.length ≤ 9223372036854775807) : bT_ s (at_ : Int) (w : Int) = some (e5_ (win s at_ w)) := by
 unfold bT_
 refine aa_ (number_loop s at_ w h1 h8 h hs) ?_
 unfold e5_
 cases hc : el_ (win s at_ w) with
 | true => exact ac_ rfl (by simp)
 | false => exact ab_ rfl (by simp)
def putA (x : Arr4_string) (i : Nat) (t : Str) : Arr4_string := match i with
 | 0 => ⟨t, x.a1_, x.a2_, x.a3_⟩
 | 1 => ⟨x.a0_, t, x.a2_, x.a3_⟩
 | 2 => ⟨x.a0_, x.a1_, t, x.a3_⟩
 | _ => ⟨x.a0_, x.a1_, x.a2_, t⟩
theorem jw_ (s : Str) (arr : Arr4_string) (a i : Nat) (hi : i < 4) (h : a ≤ s.length) (hs : s.length ≤ 1000000) :
  eH_ s ((a : Int), (i : Int), arr) = match aU_ s a with
   | none => some (.done (.ret (arr, false)))
   | some (t, p) => some (.next ((p : Int), ((i + 1 : Nat) : Int), putA arr i t)) := by
 unfold eH_ aU_
 refine ac_ (by simp; omega) ?_
 have e1 : w64 ((s.length : Int) - (a : Int)) = ((s.length - a : Nat) : Int) := by rw [am_ ⟨by omega, by omega⟩]; omega
 by_cases h2 : s.length < a + 2
 ·rw [if_pos h2]
  refine ac_ ?_ rfl
  show decide (w64 ((s.length : Int) - (a : Int)) < 2) = true
  rw [e1]; simp only [decide_eq_true_eq]; omega
 ·rw [if_neg h2]
  refine ab_ ?_ ?_
  ·show decide (w64 ((s.length : Int) - (a : Int)) < 2) = false
   rw [e1]; simp only [decide_eq_false_iff_not]; omega
  have b1 := eu_ (s := s) (i := a) (by omega)
  have b2 := eu_ (s := s) (i := a + 1) (by omega)
  have hv := two_bytes s a (by omega)
  have hv2 := fu_ s a (by omega)
  generalize s[a]'(by omega) = y1 at b1 hv
  generalize s[a + 1]'(by omega) = y2 at b2 hv
  have g1 := y1.toNat_lt
  have g2 := y2.toNat_lt
  have ea : w64 ((a : Int) + 1) = ((a + 1 : Nat) : Int) := by rw [am_ ⟨by omega, by omega⟩]; omega
  have en : w64 (w64 (y1.toNat : Int) + w64 (256 * w64 (y2.toNat : Int))) = (leV (win s a 2) : Int) := by
   rw [am_ (n := (y1.toNat : Int)) ⟨by omega, by omega⟩, am_ (n := (y2.toNat : Int)) ⟨by omega, by omega⟩, am_ (n := 256 * (y2.toNat : Int)) ⟨by omega, by omega⟩, am_ ⟨by omega, by omega⟩, hv]
   omega
  refine aa_ b1 ?_
  show Option.bind (bV_ s (w64 ((a : Int) + 1))) _ = _
  rw [ea]
  refine aa_ b2 ?_
  show (bif decide (w64 (w64 ((s.length : Int) - (a : Int)) - 2) < w64 (w64 (y1.toNat : Int) + w64 (256 * w64 (y2.toNat : Int)))) then _ else _) = _
  rw [en, e1]
  have e3 : w64 (((s.length - a : Nat) : Int) - 2) = ((s.length - a - 2 : Nat) : Int) := by rw [am_ ⟨by omega, by omega⟩]; omega
  rw [e3]
  by_cases h3 : s.length < a + 2 + leV (win s a 2)
  ·rw [if_pos h3]
   exact ac_ (by simp only [decide_eq_true_eq]; omega) rfl
  ·rw [if_neg h3]
   refine ab_ (by simp only [decide_eq_false_iff_not]; omega) ?_
   have e4 : w64 ((a : Int) + 2) = ((a + 2 : Nat) : Int) := by rw [am_ ⟨by omega, by omega⟩]; omega
   have e5 : w64 (((a + 2 : Nat) : Int) + (leV (win s a 2) : Int)) = ((a + 2 + leV (win s a 2) : Nat) : Int) := by rw [am_ ⟨by omega, by omega⟩]; omega
   have hsub := db_ s (a + 2) (leV (win s a 2)) (by omega) (by omega)
   show Option.bind (bO_ s (w64 ((a : Int) + 2)) (w64 (w64 ((a : Int) + 2) + (leV (win s a 2) : Int)))) _ = _
   rw [e4]
   refine aa_ hsub ?_
   rw [e5]
   have e6 : w64 ((i : Int) + 1) = ((i + 1 : Nat) : Int) := by rw [am_ ⟨by omega, by omega⟩]; rfl
   rw [e6]
   match i, hi with
   | 0, _ => rfl
   | 1, _ => rfl
   | 2, _ => rfl
   | 3, _ => rfl
theorem texts_eq (s : Str) (hs : s.length ≤ 1000000) : match e6_ s 0 with
  | some (t1, t2, t3, t4, p) => gr_ s = some (⟨t1, t2, t3, t4⟩, (p : Int) == (s.length : Int))
  | none => ∃ arr, gr_ s = some (arr, false) := by
 have hB : BIG = 18446744073709551611 + 1 + 1 + 1 + 1 + 1 := rfl
 unfold gr_ e6_
 rw [hB]
 let z : Arr4_string := ⟨[], [], [], []⟩
 have b0 := jw_ s z 0 0 (by omega) (by omega) hs
 cases h1 : aU_ s 0 with
 | none =>
  rw [h1] at b0
  exact ⟨_, aa_ (ar_ b0) rfl⟩
 | some x1 =>
  obtain ⟨t1, p1⟩ := x1
  rw [h1] at b0
  have b1 := jw_ s (putA z 0 t1) p1 1 (by omega) (cC_ h1).1 hs
  simp only
  cases h2 : aU_ s p1 with
  | none =>
   rw [h2] at b1
   exact ⟨_, aa_ (ay_ b0 (ar_ b1)) rfl⟩
  | some x2 =>
   obtain ⟨t2, p2⟩ := x2
   rw [h2] at b1
   have b2 := jw_ s (putA (putA z 0 t1) 1 t2) p2 2 (by omega) (cC_ h2).1 hs
   simp only
   cases h3 : aU_ s p2 with
   | none =>
    rw [h3] at b2
    exact ⟨_, aa_ (ay_ b0 (ay_ b1 (ar_ b2))) rfl⟩
   | some x3 =>
    obtain ⟨t3, p3⟩ := x3
    rw [h3] at b2
    have b3 := jw_ s (putA (putA (putA z 0 t1) 1 t2) 2 t3) p3 3 (by omega) (cC_ h3).1 hs
    simp only
    cases h4 : aU_ s p3 with
    | none =>
     rw [h4] at b3
     exact ⟨_, aa_ (ay_ b0 (ay_ b1 (ay_ b2 (ar_ b3)))) rfl⟩
    | some x4 =>
     obtain ⟨t4, p4⟩ := x4
     rw [h4] at b3
     have b4 : eH_ s ((p4 : Int), ((4 : Nat) : Int), putA (putA (putA (putA z 0 t1) 1 t2) 2 t3) 3 t4) = some (.done (.fall ((p4 : Int), putA (putA (putA (putA z 0 t1) 1 t2) 2 t3) 3 t4))) := by
      unfold eH_
      exact ab_ rfl rfl
     exact aa_ (ay_ b0 (ay_ b1 (ay_ b2 (ay_ b3 (ar_ b4))))) rfl
theorem pD_ (s : Str) (a : Nat) (h : a ≤ s.length) (hs : s.length ≤ 1000000) : iL_ s (a : Int) = some (getR s a) := by
 unfold iL_ getR
 refine ab_ (by simp only [Bool.or_eq_false_iff, decide_eq_false_iff_not]; omega) ?_
 have e1 : w64 ((s.length : Int) - (a : Int)) = ((s.length - a : Nat) : Int) := by rw [am_ ⟨by omega, by omega⟩]; omega
 rw [e1]
 by_cases h2 : s.length < a + 2
 ·rw [if_pos h2]
  exact ac_ (by simp only [decide_eq_true_eq]; omega) rfl
 ·rw [if_neg h2]
  refine ab_ (by simp only [decide_eq_false_iff_not]; omega) ?_
  have b1 := eu_ (s := s) (i := a) (by omega)
  have b2 := eu_ (s := s) (i := a + 1) (by omega)
  have hv := two_bytes s a (by omega)
  have hv2 := fu_ s a (by omega)
  generalize s[a]'(by omega) = y1 at b1 hv
  generalize s[a + 1]'(by omega) = y2 at b2 hv
  have g1 := y1.toNat_lt
  have g2 := y2.toNat_lt
  have ea : w64 ((a : Int) + 1) = ((a + 1 : Nat) : Int) := by rw [am_ ⟨by omega, by omega⟩]; omega
  have en : w64 (w64 (y1.toNat : Int) + w64 (256 * w64 (y2.toNat : Int))) = (leV (win s a 2) : Int) := by
   rw [am_ (n := (y1.toNat : Int)) ⟨by omega, by omega⟩, am_ (n := (y2.toNat : Int)) ⟨by omega, by omega⟩, am_ (n := 256 * (y2.toNat : Int)) ⟨by omega, by omega⟩, am_ ⟨by omega, by omega⟩, hv]
   omega
  refine aa_ b1 ?_
  rw [ea]
  refine aa_ b2 ?_
  rw [en]
  have e3 : w64 (((s.length - a : Nat) : Int) - 2) = ((s.length - a - 2 : Nat) : Int) := by rw [am_ ⟨by omega, by omega⟩]; omega
  rw [e3]
  by_cases h3 : s.length < a + 2 + leV (win s a 2)
  ·rw [if_pos h3]
   exact ac_ (by simp only [decide_eq_true_eq]; omega) rfl
  ·rw [if_neg h3]
   refine ab_ (by simp only [decide_eq_false_iff_not]; omega) ?_
   have e4 : w64 ((a : Int) + 2) = ((a + 2 : Nat) : Int) := by rw [am_ ⟨by omega, by omega⟩]; omega
   have ex : w64 (((a + 2 : Nat) : Int) + (leV (win s a 2) : Int)) = ((a + 2 + leV (win s a 2) : Nat) : Int) := by rw [am_ ⟨by omega, by omega⟩]; omega
   rw [e4]
   refine aa_ (db_ s (a + 2) (leV (win s a 2)) (by omega) (by omega)) ?_
   have hwl : (win s (a + 2) (leV (win s a 2))).length = leV (win s a 2) := by_ (by omega)
   rw [ex]
   generalize leV (win s a 2) = n at hwl hv2 h3 ⊢
   generalize win s (a + 2) n = y at hwl ⊢
   by_cases h47 : n < 47
   ·rw [if_pos h47]
    exact ac_ (by simp only [decide_eq_true_eq]; omega) rfl
   ·rw [if_neg h47]
    refine ab_ (by simp only [decide_eq_false_iff_not]; omega) ?_
    have hsub : bO_ y 47 (y.length : Int) = some (y.drop 47) := by
     rw [gd_ (by omega) (by omega) (by omega)]
     simp
    refine aa_ hsub ?_
    have ht := texts_eq (y.drop 47) (by rw [List.length_drop]; omega)
    rw [take4_shift y 47 (by omega)] at ht
    cases h4 : e6_ y 47 with
    | none =>
     rw [h4] at ht
     obtain ⟨arr, ht⟩ := ht
     refine aa_ ht ?_
     exact ac_ rfl rfl
    | some x =>
     obtain ⟨t1, t2, t3, t4, p⟩ := x
     rw [h4] at ht
     simp only [Option.map_some] at ht
     refine aa_ ht ?_
     simp only
     have hle := take4_le h4
     by_cases hp : p = n
     ·rw [if_pos hp]
      refine ab_ (by rw [Bool.not_eq_false', beq_iff_eq, List.length_drop]; omega) ?_
      have nm : ∀ (q w : Nat), 1 ≤ w → w ≤ 8 → q + w ≤ 47 → bT_ y (q : Int) (w : Int) = some (e5_ (win y q w)) := fun q w hw1 hw8 hq => rt_ y q w hw1 hw8 (by omega) (by omega)
      refine aa_ (nm 6 1 (by omega) (by omega) (by omega)) ?_
      refine aa_ (nm 7 4 (by omega) (by omega) (by omega)) ?_
      refine aa_ (nm 11 8 (by omega) (by omega) (by omega)) ?_
      refine aa_ (nm 0 2 (by omega) (by omega) (by omega)) ?_
      refine aa_ (nm 2 4 (by omega) (by omega) (by omega)) ?_
      refine aa_ (nm 19 4 (by omega) (by omega) (by omega)) ?_
      refine aa_ (nm 23 8 (by omega) (by omega) (by omega)) ?_
      refine aa_ (nm 31 8 (by omega) (by omega) (by omega)) ?_
      refine aa_ (nm 39 8 (by omega) (by omega) (by omega)) ?_
      have hB : BIG = 18446744073709551616 := rfl
      refine aa_ (kW_ (ev_ y t1 t2 t3 t4) (by show t1.length ≤ _; omega)) ?_
      by_cases hc : bi_ (ev_ y t1 t2 t3 t4) = 0
      ·rw [if_pos hc]
       exact ab_ (by simp [hc]) rfl
      ·rw [if_neg hc]
       exact ac_ (by simp [hc]) rfl
     ·rw [if_neg hp]
      refine ac_ ?_ rfl
      rw [Bool.not_eq_true', beq_eq_false_iff_ne, List.length_drop]
      omega
end Go.Proofs.YtolgkhjkdadhiaaGreat
namespace Go.Proofs.YtolgkhjkdadhiaaGreat
open Go.Rt Go.RowKit
theorem leV_drop : ∀ (n : Nat) (s : Str), leV (s.drop n) ≤ leV s
 | 0, _ => Nat.le_refl _
 | _ + 1, [] => Nat.le_refl _
 | n + 1, b :: s => by
  have := leV_drop n s
  simp only [List.drop_succ_cons, leV]
  omega
theorem r02_loop (s : Str) (b w : Nat) (h1 : 1 ≤ w) (h8 : w ≤ 8) (h : b + w ≤ s.length) (hs : s.length ≤ 9223372036854775807) : ∀ (k fuel : Nat), k ≤ w → k < fuel → leV ((win s b w).drop k) ≤ 9223372036854775807 →
  an_ (fT_ s (b : Int)) fuel (((leV ((win s b w).drop k) : Nat) : Int), (k : Int) - 1) = some (if leV (win s b w) > 9223372036854775807 then .ret (0, 0, 5) else .fall (leV (win s b w) : Int))
 | 0, fuel + 1, _, _, hv => by
  rw [List.drop_zero] at hv ⊢
  rw [if_neg (by omega)]
  refine ar_ ?_
  unfold fT_
  exact ab_ (by simp) rfl
 | k + 1, fuel + 1, hk, hf, hv => by
  have hlt := fV_ ((win s b w).drop (k + 1))
  have hd := lP_ (s := s) (at_ := b) (w := w) (j := w - (k + 1)) (by omega) (by omega)
  rw [show w - (w - (k + 1) + 1) = k by omega, show w - (w - (k + 1)) = k + 1 by omega] at hd
  have hby := eu_ (s := s) (i := b + (w - 1 - (w - (k + 1)))) (by omega)
  generalize s[b + (w - 1 - (w - (k + 1)))]'(by omega) = c at hd hby
  have hc := c.toNat_lt
  have hle := leV_drop k (win s b w)
  rw [hd] at hle
  simp only [leV] at hle
  have hpos : decide ((((k + 1 : Nat) : Int) - 1) ≥ 0) = true := by simp only [decide_eq_true_eq]; omega
  by_cases h55 : leV ((win s b w).drop (k + 1)) ≥ 36028797018963968
  ·rw [if_pos (by omega)]
   refine ar_ ?_
   unfold fT_
   refine ac_ hpos (ac_ ?_ rfl)
   simp only [decide_eq_true_eq]
   omega
  ·have ih := r02_loop s b w h1 h8 h hs k fuel (by omega) (by omega) (by rw [hd]; simp only [leV]; omega)
   refine ay_ ?_ ih
   unfold fT_
   refine ac_ hpos (ab_ ?_ ?_)
   ·simp only [decide_eq_false_iff_not]
    omega
   ·have e1 : w64 ((b : Int) + (((k + 1 : Nat) : Int) - 1)) = ((b + (w - 1 - (w - (k + 1))) : Nat) : Int) := by
     rw [am_ ⟨by omega, by omega⟩]; omega
    show Option.bind (bV_ s (w64 ((b : Int) + (((k + 1 : Nat) : Int) - 1)))) _ = _
    rw [e1]
    refine aa_ hby ?_
    rw [hd]
    simp only [leV]
    generalize leV ((win s b w).drop (k + 1)) = v at *
    rw [am_ (n := 256 * (v : Int)) ⟨by omega, by omega⟩, am_ (n := (c.toNat : Int)) ⟨by omega, by omega⟩, am_ (n := 256 * (v : Int) + (c.toNat : Int)) ⟨by omega, by omega⟩, am_ (n := ((k + 1 : Nat) : Int) - 1 - 1) ⟨by omega, by omega⟩]
    congr 3
    ·omega
    ·omega
theorem r02_at (s : Str) (b w : Nat) (h1 : 1 ≤ w) (h8 : w ≤ 8) (h : b ≤ s.length) (hs : s.length ≤ 9223372036854775807) :
  eP_ s (b : Int) (w : Int) = some (if s.length - b < w then (0, 0, 3) else if leV (win s b w) > 9223372036854775807 then (0, 0, 5) else ((leV (win s b w) : Int), ((b + w : Nat) : Int), 0)) := by
 unfold eP_
 refine aa_ (a := true) ?_ ?_
 ·unfold gp_
  simp; omega
 refine ab_ (by simp; omega) ?_
 by_cases hlt : s.length - b < w
 ·rw [if_pos hlt]
  refine ac_ ?_ rfl
  rw [am_ ⟨by omega, by omega⟩]
  simp; omega
 ·rw [if_neg hlt]
  refine ab_ ?_ ?_
  ·rw [am_ ⟨by omega, by omega⟩]
   simp; omega
  have e : (win s b w).drop w = [] := List.drop_eq_nil_of_le (by rw [by_ (by omega)]; omega)
  have hl := r02_loop s b w h1 h8 (by omega) hs w BIG (Nat.le_refl _) (by show w < 18446744073709551616; omega) (by rw [e]; simp [leV])
  rw [e] at hl
  rw [am_ (n := (w : Int) - 1) ⟨by omega, by omega⟩]
  refine aa_ hl ?_
  by_cases hv : leV (win s b w) > 9223372036854775807
  ·rw [if_pos hv, if_pos hv]
  ·rw [if_neg hv, if_neg hv]
   show some ((leV (win s b w) : Int), w64 ((b : Int) + (w : Int)), (0 : Int)) = _
   rw [am_ (n := (b : Int) + (w : Int)) ⟨by omega, by omega⟩]
   rfl
theorem r02_get (s : Str) (w : Nat) (h1 : 1 ≤ w) (h8 : w ≤ 8) (hs : s.length ≤ 9223372036854775807) :
  eP_ s 0 (w : Int) = some (if s.length < w then (0, 0, 3) else if leV (win s 0 w) > 9223372036854775807 then (0, 0, 5) else ((leV (win s 0 w) : Int), (w : Int), 0)) := by
 have := r02_at s 0 w h1 h8 (by omega) hs
 rwa [Nat.zero_add, Nat.sub_zero] at this
theorem mL_ {α : Type} (s : List α) (a : Nat) (h : a ≤ s.length) : bO_ s (a : Int) (s.length : Int) = some (s.drop a) := by
 rw [gd_ (by omega) (by omega) (by omega)]
 simp
def Sim (y : Str) (r : wire_reader) (q : ref09_In) : Prop := (∃ a : Nat, a ≤ y.length ∧ r = ⟨y, (a : Int), true⟩ ∧ q = ⟨y.drop a, false⟩) ∨ (∃ a S, r = ⟨y, a, false⟩ ∧ q = ⟨S, true⟩ ∧ S.length ≤ y.length)
def Two {α : Type} (y : Str) (r0 : wire_reader) (x : Option (α × wire_reader)) (z : Option (ref09_In × α)) : Prop := ∃ v r v' q, x = some (v, r) ∧ z = some (q, v') ∧ Sim y r q ∧ (r.ok_ = true → r0.ok_ = true ∧ v = v')
theorem ig_ {y : Str} : ([] : Str).length ≤ y.length := by simp
theorem snum {y : Str} {r : wire_reader} {q : ref09_In} {n : Nat} (h1 : 1 ≤ n) (h8 : n ≤ 8) (hs : y.length ≤ 1000000) (h : Sim y r q) :
  (∃ a, a + n ≤ y.length ∧ (r.ok_ = true ∧ leV (win y a n) ≤ 9223372036854775807) ∧ al_ r (n : Int) = some ((leV (win y a n) : Int), ⟨y, ((a + n : Nat) : Int), true⟩) ∧ aw_ q (n : Int) = some (⟨y.drop (a + n), false⟩, (leV (win y a n) : Int))) ∨
  (∃ v a, al_ r (n : Int) = some (v, ⟨y, a, false⟩) ∧ aw_ q (n : Int) = some (⟨[], true⟩, 0)) := by
 rcases h with ⟨a, ha, rfl, rfl⟩ | ⟨a, S, rfl, rfl, hS⟩
 ·have hg := fW_ y a n h1 h8 ha (by omega)
  have hr := r02_get (y.drop a) n h1 h8 (by rw [List.length_drop]; omega)
  rw [mF_, Nat.add_zero, List.length_drop] at hr
  by_cases hlt : y.length - a < n
  ·rw [if_pos hlt] at hg hr
   refine .inr ⟨0, (a : Int), ?_, ?_⟩
   ·unfold al_
    exact ab_ rfl (aa_ hg (ac_ rfl rfl))
   ·unfold aw_
    exact aa_ hr (ac_ rfl rfl)
  ·rw [if_neg hlt] at hg hr
   by_cases hv : leV (win y a n) > 9223372036854775807
   ·rw [if_pos hv] at hg hr
    refine .inr ⟨0, (a : Int), ?_, ?_⟩
    ·unfold al_
     exact ab_ rfl (aa_ hg (ac_ rfl rfl))
    ·unfold aw_
     exact aa_ hr (ac_ rfl rfl)
   ·rw [if_neg hv] at hg hr
    refine .inl ⟨a, by omega, ⟨rfl, by omega⟩, ?_, ?_⟩
    ·unfold al_
     exact ab_ rfl (aa_ hg (ab_ rfl rfl))
    ·unfold aw_
     refine aa_ hr (ab_ rfl ?_)
     refine aa_ (mL_ _ n (by rw [List.length_drop]; omega)) ?_
     rw [List.drop_drop]
 ·refine .inr ⟨0, a, ?_, ?_⟩
  ·unfold al_
   exact ac_ rfl rfl
  ·have hr := r02_get S n h1 h8 (by omega)
   unfold aw_
   exact aa_ hr (ac_ rfl rfl)
theorem tnum {y : Str} {r : wire_reader} {q : ref09_In} {n : Nat} (h1 : 1 ≤ n) (h8 : n ≤ 8) (hs : y.length ≤ 1000000) (h : Sim y r q) : Two y r (al_ r (n : Int)) (aw_ q (n : Int)) := by
 rcases snum h1 h8 hs h with ⟨a, ha, ⟨ho, _⟩, e1, e2⟩ | ⟨v, a, e1, e2⟩
 ·exact ⟨_, _, _, _, e1, e2, .inl ⟨a + n, ha, rfl, rfl⟩, fun _ => ⟨ho, rfl⟩⟩
 ·exact ⟨_, _, _, _, e1, e2, .inr ⟨a, [], rfl, rfl, ig_⟩, fun e => nomatch e⟩
theorem num_in {y : Str} {r r' : wire_reader} {q : ref09_In} {n : Nat} {v : Int} (h1 : 1 ≤ n) (h8 : n ≤ 8) (hs : y.length ≤ 1000000) (h : Sim y r q) (e : al_ r (n : Int) = some (v, r')) (ho : r'.ok_ = true) : InK .i64 v := by
 rcases snum h1 h8 hs h with ⟨a, ha, ⟨_, hv⟩, e1, _⟩ | ⟨v, a, e1, _⟩
 ·obtain ⟨rfl, rfl⟩ := Prod.mk.inj (Option.some.inj (e1.symm.trans e))
  exact (show -9223372036854775808 ≤ (leV (win y a n) : Int) ∧ (leV (win y a n) : Int) ≤ 9223372036854775807 from ⟨by omega, by omega⟩)
 ·obtain ⟨rfl, rfl⟩ := Prod.mk.inj (Option.some.inj (e1.symm.trans e))
  cases ho
theorem r02_text (s : Str) (hs : s.length ≤ 1000000) : gG_ s 0 = some (match aU_ s 0 with | none => ([], 0, 3) | some (t, p) => (t, (p : Int), 0)) := by
 unfold gG_
 have hg := r02_get s 2 (by omega) (by omega) (by omega)
 rw [show ((2 : Nat) : Int) = 2 from rfl] at hg
 unfold aU_
 by_cases h2 : s.length < 0 + 2
 ·rw [if_pos (by omega)] at hg
  rw [if_pos h2]
  refine aa_ hg ?_
  exact ac_ rfl rfl
 ·have hv := fu_ s 0 (by omega)
  rw [if_neg (by omega), if_neg (by omega)] at hg
  rw [if_neg h2]
  refine aa_ hg ?_
  refine ab_ rfl ?_
  have ew : w64 ((s.length : Int) - 2) = ((s.length - 2 : Nat) : Int) := by rw [am_ ⟨by omega, by omega⟩]; omega
  have ex : w64 (2 + (leV (win s 0 2) : Int)) = ((0 + 2 + leV (win s 0 2) : Nat) : Int) := by rw [am_ ⟨by omega, by omega⟩]; omega
  by_cases h3 : s.length < 0 + 2 + leV (win s 0 2)
  ·rw [if_pos h3]
   refine ac_ ?_ rfl
   show decide (w64 ((s.length : Int) - 2) < (leV (win s 0 2) : Int)) = true
   rw [ew]; simp only [decide_eq_true_eq]; omega
  ·rw [if_neg h3]
   refine ab_ ?_ ?_
   ·show decide (w64 ((s.length : Int) - 2) < (leV (win s 0 2) : Int)) = false
    rw [ew]; simp only [decide_eq_false_iff_not]; omega
   have hw := db_ s (0 + 2) (leV (win s 0 2)) (by omega) (by omega)
   rw [show ((0 + 2 : Nat) : Int) = 2 from rfl] at hw
   refine aa_ hw ?_
   show some (_, w64 (2 + (leV (win s 0 2) : Int)), (0 : Int)) = _
   rw [ex]
theorem ttext {y : Str} {r : wire_reader} {q : ref09_In} (hs : y.length ≤ 1000000) (h : Sim y r q) : Two y r (aG_ r) (bI_ q) := by
 rcases h with ⟨a, ha, rfl, rfl⟩ | ⟨a, S, rfl, rfl, hS⟩
 ·have hg := lQ_ y a ha hs
  have hr := r02_text (y.drop a) (by rw [List.length_drop]; omega)
  rw [gt_ y a 0 ha, Nat.add_zero] at hr
  cases ht : aU_ y a with
  | none =>
   rw [ht] at hg hr
   refine ⟨[], ⟨y, (a : Int), false⟩, [], ⟨[], true⟩, ?_, ?_, .inr ⟨(a : Int), [], rfl, rfl, ig_⟩, fun e => nomatch e⟩
   ·unfold aG_
    exact ab_ rfl (aa_ hg (ac_ rfl rfl))
   ·unfold bI_
    exact aa_ hr (ac_ rfl rfl)
  | some x =>
   obtain ⟨t, p⟩ := x
   rw [ht] at hg hr
   have hle := cC_ ht
   refine ⟨t, ⟨y, (p : Int), true⟩, t, ⟨y.drop p, false⟩, ?_, ?_, .inl ⟨p, hle.1, rfl, rfl⟩, fun _ => ⟨rfl, rfl⟩⟩
   ·unfold aG_
    exact ab_ rfl (aa_ hg (ab_ rfl rfl))
   ·unfold bI_
    refine aa_ hr (ab_ rfl ?_)
    refine aa_ (mL_ (y.drop a) (p - a) (by rw [List.length_drop]; omega)) ?_
    rw [List.drop_drop, show a + (p - a) = p by omega]
    rfl
 ·refine ⟨[], ⟨y, a, false⟩, [], ⟨[], true⟩, ?_, ?_, .inr ⟨a, [], rfl, rfl, ig_⟩, fun e => nomatch e⟩
  ·unfold aG_
   exact ac_ rfl rfl
  ·have hr := r02_text S (by omega)
   unfold bI_
   exact aa_ hr (ac_ rfl rfl)
theorem tqid {y : Str} {r : wire_reader} {q : ref09_In} (hs : y.length ≤ 1000000) (h : Sim y r q) : Two y r (aZ_ r) (eG_ q) := by
 obtain ⟨v1, r1, u1, q1, a1, b1, s1, e1⟩ := tnum (n := 1) (by omega) (by omega) hs h
 obtain ⟨v2, r2, u2, q2, a2, b2, s2, e2⟩ := tnum (n := 4) (by omega) (by omega) hs s1
 obtain ⟨v3, r3, u3, q3, a3, b3, s3, e3⟩ := tnum (n := 8) (by omega) (by omega) hs s2
 refine ⟨⟨v1, v2, v3⟩, r3, ⟨u1, u2, u3⟩, q3, ?_, ?_, s3, fun ho => ?_⟩
 ·unfold aZ_
  exact aa_ a1 (aa_ a2 (aa_ a3 rfl))
 ·unfold eG_
  exact aa_ b1 (aa_ b2 (aa_ b3 rfl))
 ·obtain ⟨o2, rfl⟩ := e3 ho
  obtain ⟨o1, rfl⟩ := e2 o2
  obtain ⟨o0, rfl⟩ := e1 o1
  exact ⟨o0, rfl⟩
theorem gg_ {α β : Type} {x : Option α} {f : α → Option β} {b : β} (h : Option.bind x f = some b) : ∃ a, x = some a ∧ f a = some b := by
 cases x with
 | none => cases h
 | some a => exact ⟨a, rfl, h⟩
theorem qid_in {y : Str} {r r' : wire_reader} {q : ref09_In} {v : api_Qid} (hs : y.length ≤ 1000000) (h : Sim y r q) (e : aZ_ r = some (v, r')) (ho : r'.ok_ = true) : v.ok := by
 obtain ⟨v1, r1, u1, q1, a1, b1, s1, e1⟩ := tnum (n := 1) (by omega) (by omega) hs h
 obtain ⟨v2, r2, u2, q2, a2, b2, s2, e2⟩ := tnum (n := 4) (by omega) (by omega) hs s1
 obtain ⟨v3, r3, u3, q3, a3, b3, s3, e3⟩ := tnum (n := 8) (by omega) (by omega) hs s2
 have he : aZ_ r = some (⟨v1, v2, v3⟩, r3) := by
  unfold aZ_
  exact aa_ a1 (aa_ a2 (aa_ a3 rfl))
 obtain ⟨rfl, rfl⟩ := Prod.mk.inj (Option.some.inj (he.symm.trans e))
 have o2 := (e3 ho).1
 have o1 := (e2 o2).1
 exact ⟨num_in (n := 1) (by omega) (by omega) hs h a1 o1, num_in (n := 4) (by omega) (by omega) hs s1 a2 o2, num_in (n := 8) (by omega) (by omega) hs s2 a3 ho⟩
def textsR : List Str := (gq_).getD []
theorem lX_ : gq_ = some textsR := rfl
theorem texts_all : (List.range 60).all (fun n => n == 0 || (decide (au_ textsR (n : Int) = some (cv_ (n : Int))) && (cv_ (n : Int) != []))) = true := by kernel_rfl
theorem texts_at {n : Nat} (h1 : 1 ≤ n) (h2 : n ≤ 59) : au_ textsR (n : Int) = some (cv_ (n : Int)) ∧ (cv_ (n : Int) == []) = false := by
 have := List.all_eq_true.1 texts_all n (List.mem_range.2 (by omega))
 simp only [Bool.or_eq_true, Bool.and_eq_true, decide_eq_true_eq, beq_iff_eq] at this
 rcases this with h | ⟨h, h'⟩
 ·omega
 ·exact ⟨h, by simpa using h'⟩
theorem pE_ : (textsR.length : Int) = 60 := by kernel_rfl
theorem pF_ (x : Str) : ∀ (k fuel i : Nat), 1 ≤ i → i + k = 60 → k < fuel → ∃ o, (x ≠ [] → an_ (cy_ x) fuel (i : Int) = some o) ∧ an_ (fg_ x) fuel ((i : Int), textsR) = some o ∧ (x = [] → o = .fall ())
 | 0, fuel + 1, i, _, hi, _ => by
  refine ⟨.fall (), fun _ => ar_ ?_, ar_ ?_, fun _ => rfl⟩
  ·unfold cy_
   exact ab_ (by simp; omega) rfl
  ·unfold fg_
   refine ab_ ?_ rfl
   show decide ((i : Int) < (textsR.length : Int)) = false
   rw [pE_]; simp; omega
 | k + 1, fuel + 1, i, h1, hi, hk => by
  have hc : decide ((i : Int) ≤ 59) = true := by simp; omega
  have hc2 : decide ((i : Int) < (textsR.length : Int)) = true := by rw [pE_]; simp; omega
  obtain ⟨ht, hne⟩ := texts_at (n := i) h1 (by omega)
  cases hx : (cv_ (i : Int) == x) with
  | true =>
   refine ⟨.ret ((i : Int), true), fun _ => ar_ ?_, ar_ ?_, fun e => ?_⟩
   ·unfold cy_
    refine ac_ hc (aa_ (hC_ _) ?_)
    exact ac_ hx rfl
   ·unfold fg_
    refine ac_ hc2 (aa_ ht ?_)
    exact ac_ hx rfl
   ·rw [e] at hx; rw [hne] at hx; cases hx
  | false =>
   obtain ⟨o, h2, h3, h4⟩ := pF_ x k fuel (i + 1) (by omega) (by omega) (by omega)
   have ew : w64 ((i : Int) + 1) = ((i + 1 : Nat) : Int) := by rw [am_ ⟨by omega, by omega⟩]; rfl
   refine ⟨o, fun e => ay_ ?_ (h2 e), ay_ ?_ h3, h4⟩
   ·unfold cy_
    refine ac_ hc (aa_ (hC_ _) ?_)
    refine ab_ hx ?_
    rw [ew]
   ·unfold fg_
    refine ac_ hc2 (aa_ ht ?_)
    refine ab_ hx ?_
    show some (Step.next (w64 ((i : Int) + 1), textsR)) = _
    rw [ew]
theorem find_both (x : Str) : ∃ y, df_ x = some y ∧ e3_ x = some y := by
 obtain ⟨o, h1, h2, h3⟩ := pF_ x 59 BIG 1 (by omega) rfl (by show (59 : Nat) < 18446744073709551616; omega)
 rw [show ((1 : Nat) : Int) = 1 from rfl] at h1 h2
 by_cases hx : x = []
 ·obtain rfl := h3 hx
  refine ⟨(0, false), ?_, ?_⟩
  ·unfold df_
   exact ac_ (by simp [hx]) rfl
  ·unfold e3_
   exact aa_ lX_ (aa_ h2 rfl)
 ·cases o with
  | ret z =>
   refine ⟨z, ?_, ?_⟩
   ·unfold df_
    exact ab_ (by simp [hx]) (aa_ (h1 hx) rfl)
   ·unfold e3_
    exact aa_ lX_ (aa_ h2 rfl)
  | fall u =>
   refine ⟨(0, false), ?_, ?_⟩
   ·unfold df_
    exact ab_ (by simp [hx]) (aa_ (h1 hx) rfl)
   ·unfold e3_
    exact aa_ lX_ (aa_ h2 rfl)
theorem tfault {y : Str} {r : wire_reader} {q : ref09_In} (hs : y.length ≤ 1000000) (h : Sim y r q) : Two y r (bB_ r) (Option.bind (bI_ q) fun x => Option.bind (e3_ x.2) fun z => some ((ref09_In.mk x.1.S_ (x.1.Bad_ || (!z.2))), z.1)) := by
 obtain ⟨v1, r1, u1, q1, a1, b1, s1, e1⟩ := ttext hs h
 obtain ⟨⟨n, f⟩, f1, f2⟩ := find_both v1
 obtain ⟨⟨n', f'⟩, _, g2⟩ := find_both u1
 refine ⟨n, ⟨r1.s_, r1.at_, r1.ok_ && f⟩, n', ⟨q1.S_, q1.Bad_ || !f'⟩, ?_, ?_, ?_, fun ho => ?_⟩
 ·unfold bB_
  exact aa_ a1 (aa_ f1 rfl)
 ·exact aa_ b1 (aa_ g2 rfl)
 ·rcases s1 with ⟨a, ha, rfl, rfl⟩ | ⟨a, S, rfl, rfl, hS⟩
  ·obtain ⟨_, rfl⟩ := e1 rfl
   rw [f2] at g2
   obtain ⟨rfl, rfl⟩ := Prod.mk.inj (Option.some.inj g2)
   cases f with
   | true => exact .inl ⟨a, ha, rfl, rfl⟩
   | false => exact .inr ⟨(a : Int), y.drop a, rfl, rfl, by rw [List.length_drop]; omega⟩
  ·exact .inr ⟨a, S, rfl, rfl, hS⟩
 ·simp only [Bool.and_eq_true] at ho
  obtain ⟨o0, rfl⟩ := e1 ho.1
  rw [f2] at g2
  exact ⟨o0, (Prod.mk.inj (Option.some.inj g2)).1⟩
theorem raw_bad (S : Str) (v : Int) : do_ ⟨S, true⟩ v = some (⟨[], true⟩, []) := by
 unfold do_
 exact ac_ rfl rfl
theorem sdata {y : Str} {r : wire_reader} {q : ref09_In} {n : Nat} (h1 : 1 ≤ n) (h8 : n ≤ 8) (hs : y.length ≤ 1000000) (h : Sim y r q) :
  ∃ (q0 : ref09_In) (v0 : Int), aw_ q (n : Int) = some (q0, v0) ∧
   ((∃ (t : Str) (p : Nat), r.ok_ = true ∧ p ≤ y.length ∧ t.length ≤ y.length ∧ v0 = (t.length : Int) ∧ aK_ r (n : Int) = some (t, ⟨y, (p : Int), true⟩) ∧ do_ q0 v0 = some (⟨y.drop p, false⟩, t)) ∨
    (∃ (v : Str) (a : Int), aK_ r (n : Int) = some (v, ⟨y, a, false⟩) ∧ do_ q0 v0 = some (⟨[], true⟩, []))) := by
 rcases snum h1 h8 hs h with ⟨a, ha, ⟨ho, _⟩, e1, e2⟩ | ⟨v, a, e1, e2⟩
 ·refine ⟨_, _, e2, ?_⟩
  have hld : (y.drop (a + n)).length = y.length - (a + n) := List.length_drop
  have ew : w64 ((y.length : Int) - ((a + n : Nat) : Int)) = ((y.length - (a + n) : Nat) : Int) := by rw [am_ ⟨by omega, by omega⟩]; omega
  generalize hv : leV (win y a n) = v at e1 e2
  by_cases hb : v > y.length - (a + n)
  ·refine .inr ⟨[], ((a + n : Nat) : Int), ?_, ?_⟩
   ·unfold aK_
    refine aa_ e1 (ac_ ?_ rfl)
    show (!true || decide ((v : Int) > w64 ((y.length : Int) - ((a + n : Nat) : Int)))) = true
    rw [ew]; simp; omega
   ·unfold do_
    refine ac_ ?_ rfl
    show (false || decide ((v : Int) > ((y.drop (a + n)).length : Int))) = true
    rw [hld]; simp; omega
  ·have hwl : (win y (a + n) v).length = v := by_ (by omega)
   refine .inl ⟨win y (a + n) v, a + n + v, ho, by omega, by omega, by rw [hwl], ?_, ?_⟩
   ·unfold aK_
    refine aa_ e1 (ab_ ?_ ?_)
    ·show (!true || decide ((v : Int) > w64 ((y.length : Int) - ((a + n : Nat) : Int)))) = false
     rw [ew]; simp; omega
    ·have ex : w64 (((a + n : Nat) : Int) + (v : Int)) = ((a + n + v : Nat) : Int) := by rw [am_ ⟨by omega, by omega⟩]; omega
     show Option.bind (bO_ y (w64 (w64 (((a + n : Nat) : Int) + (v : Int)) - (v : Int))) (w64 (((a + n : Nat) : Int) + (v : Int)))) (fun y2 => some (y2, (⟨y, w64 (((a + n : Nat) : Int) + (v : Int)), true⟩ : wire_reader))) = _
     have hsub := db_ y (a + n) v (by omega) (by omega)
     have e3 : w64 (((a + n + v : Nat) : Int) - (v : Int)) = ((a + n : Nat) : Int) := by rw [am_ ⟨by omega, by omega⟩]; omega
     rw [ex] at hsub ⊢
     rw [e3]
     exact aa_ hsub rfl
   ·unfold do_
    refine ab_ ?_ ?_
    ·show (false || decide ((v : Int) > ((y.drop (a + n)).length : Int))) = false
     rw [hld]; simp; omega
    ·refine aa_ (mL_ (y.drop (a + n)) v (by omega)) ?_
     have hsub : bO_ (y.drop (a + n)) 0 (v : Int) = some (win y (a + n) v) := by
      rw [gd_ (by omega) (by omega) (by omega)]
      simp [win]
     refine aa_ hsub ?_
     rw [List.drop_drop]
 ·refine ⟨_, _, e2, .inr ?_⟩
  have hd : aK_ r (n : Int) = some ([], ⟨y, a, false⟩) := by
   unfold aK_
   exact aa_ e1 (ac_ rfl rfl)
  exact ⟨_, _, hd, raw_bad _ _⟩
theorem tdata {y : Str} {r : wire_reader} {q : ref09_In} {n : Nat} (h1 : 1 ≤ n) (h8 : n ≤ 8) (hs : y.length ≤ 1000000) (h : Sim y r q) : Two y r (aK_ r (n : Int)) (Option.bind (aw_ q (n : Int)) fun x => do_ x.1 x.2) := by
 obtain ⟨q0, v0, e0, ⟨t, p, ho, hp, _, _, e1, e2⟩ | ⟨v, a, e1, e2⟩⟩ := sdata h1 h8 hs h
 ·exact ⟨_, _, _, _, e1, aa_ e0 e2, .inl ⟨p, hp, rfl, rfl⟩, fun _ => ⟨ho, rfl⟩⟩
 ·exact ⟨_, _, _, _, e1, aa_ e0 e2, .inr ⟨a, [], rfl, rfl, ig_⟩, fun e => nomatch e⟩
theorem tstat {y : Str} {r : wire_reader} {q : ref09_In} (hs : y.length ≤ 1000000) (h : Sim y r q) : Two y r (bl_ r) (Option.bind (aw_ q 2) fun x => Option.bind (do_ x.1 x.2) fun z => Option.bind (iL_ z.2 0) fun d => some ((ref09_In.mk z.1.S_ ((z.1.Bad_ || (d.2.2 != 0)) || (d.2.1 != x.2))), d.1)) := by
 obtain ⟨q0, v0, e0, ⟨t, p, ho, hp, htl, hv, e1, e2⟩ | ⟨v, a, e1, e2⟩⟩ := sdata (n := 2) (by omega) (by omega) hs h
 ·have hw := kU_ t 0 (by omega) (by omega)
  have hr := pD_ t 0 (by omega) (by omega)
  rw [show ((0 : Nat) : Int) = 0 from rfl] at hw hr
  generalize getR t 0 = g at hw hr
  obtain ⟨d, n, e⟩ := g
  refine ⟨d, ⟨y, (p : Int), (e == 0) && (n == (t.length : Int))⟩, d, ⟨y.drop p, (false || (e != 0)) || (n != v0)⟩, ?_, ?_, ?_, fun _ => ⟨ho, rfl⟩⟩
  ·unfold bl_
   refine aa_ e1 (ab_ rfl ?_)
   exact aa_ hw rfl
  ·refine aa_ e0 (aa_ e2 ?_)
   exact aa_ hr rfl
  ·rw [hv]
   by_cases hok : e = 0 ∧ n = (t.length : Int)
   ·left
    refine ⟨p, hp, ?_, ?_⟩
    ·simp [hok.1, hok.2]
    ·simp [hok.1, hok.2]
   ·right
    refine ⟨(p : Int), y.drop p, ?_, ?_, by rw [List.length_drop]; omega⟩
    ·congr 1
     rw [Bool.eq_false_iff]
     intro hc
     simp only [Bool.and_eq_true, beq_iff_eq] at hc
     exact hok hc
    ·congr 1
     rw [Bool.eq_iff_iff]
     simp only [Bool.false_or, Bool.or_eq_true, bne_iff_ne, ne_eq, iff_true]
     by_cases he : e = 0
     ·exact .inr fun hn => hok ⟨he, hn⟩
     ·exact .inl he
 ·have hr := pD_ [] 0 (by simp) (by simp)
  rw [show ((0 : Nat) : Int) = 0 from rfl] at hr
  have x1 : bl_ r = some (zeroDir, ⟨y, a, false⟩) := by
   unfold bl_
   exact aa_ e1 (ac_ rfl rfl)
  exact ⟨_, _, _, _, x1, aa_ e0 (aa_ e2 (aa_ hr rfl)), .inr ⟨a, [], rfl, rfl, ig_⟩, fun e => nomatch e⟩
end Go.Proofs.YtolgkhjkdadhiaaGreat
namespace Go.Proofs.YtolgkhjkdadhiaaGreat
open Go.Rt Go.RowKit
abbrev StT : Type := Int × ref09_In × Int × Int × Int × Int × Int × Int × Int × Str × Str × Str × Int × Int × Int × Int × Int × Int × Str × Int × Int × Str × Int × Int × Int × Int × Int × Int × Int × Int × Int × Str × Str × Str × Str × Int × Int × Int × Str × (List Str) × (List api_Qid)
abbrev DnT : Type := ref09_In × Int × Int × Int × Int × Int × Int × Int × Str × Str × Str × Int × Int × Int × Int × Int × Int × Str × Int × Int × Str × Int × Int × Int × Int × Int × Int × Int × Int × Int × Str × Str × Str × Str × Int × Int × Int × Str × (List Str) × (List api_Qid)
def dn (q : ref09_In) (m : api_Msg) : DnT := (q, m.Kind_, m.Tag_, m.Fid_, m.NewFid_, m.AuthFid_, m.OldTag_, m.Msize_, m.Version_, m.User_, m.Attach_, m.Qid_.Type_, m.Qid_.Vers_, m.Qid_.Path_, m.Iounit_, m.Mode_, m.Perm_, m.Name_, m.Offset_, m.Count_, m.Data_, m.Stat_.Type_, m.Stat_.Dev_, m.Stat_.Qid_.Type_, m.Stat_.Qid_.Vers_, m.Stat_.Qid_.Path_, m.Stat_.Mode_, m.Stat_.Atime_, m.Stat_.Mtime_, m.Stat_.Length_, m.Stat_.Name_, m.Stat_.Uid_, m.Stat_.Gid_, m.Stat_.Muid_, m.Err_, m.Lease_, m.Term_, m.Session_, m.Names_, m.Qids_)
def st (i : Int) (q : ref09_In) (m : api_Msg) : StT := (i, dn q m)
theorem nd_names {y3 : ref09_In × Int} {i : Int} {q : ref09_In} {m : api_Msg} (h : (decide (i < y3.2) && !q.Bad_) = false) : b2_ y3 (st i q m) = some (.done (dn q m)) := by
 unfold b2_
 exact ab_ h rfl
theorem nx_names {y3 : ref09_In × Int} {i : Int} {q q1 : ref09_In} {m : api_Msg} {u : Str} {l : List Str} (h : (decide (i < y3.2) && !q.Bad_) = true) (hu : bI_ q = some (q1, u)) (hr : bF_ 16 m.Names_ [u] = some l) : b2_ y3 (st i q m) = some (.next (st (w64 (i + 1)) q1 { m with Names_ := l })) := by
 unfold b2_
 exact ac_ h (aa_ hu (aa_ hr rfl))
theorem ru_ (y : Str) (hs : y.length ≤ 1000000) (y3 : ref09_In × Int) (k : Nat) : ∀ (fuel i : Nat) (r : wire_reader) (q : ref09_In) (acc : List Str) (m : api_Msg), Sim y r q → y3.2 = ((i + k : Nat) : Int) → i + k ≤ 65535 → k < fuel → acc.length + k ≤ 65535 → (r.ok_ = true → m.Names_ = acc) →
  ∃ l r' q' m2, an_ aC_ fuel ((k : Int), r, acc) = some (l, r') ∧ an_ (b2_ y3) fuel (st (i : Int) q m) = some (dn q' m2) ∧ Sim y r' q' ∧ (r'.ok_ = true → r.ok_ = true ∧ m2 = { m with Names_ := l }) ∧ (r'.ok_ = true → (∀ x ∈ acc, True) → ∀ x ∈ l, True) := by
 induction k with
 | zero =>
  intro fuel i r q acc m hS hn hi hf hl hm
  obtain ⟨fuel, rfl⟩ : ∃ f, fuel = f + 1 := ⟨fuel - 1, by omega⟩
  refine ⟨acc, r, q, m, ar_ ?_, ar_ (nd_names ?_), hS, fun ho => ⟨ho, ?_⟩, fun _ h => h⟩
  ·unfold aC_
   exact ab_ (by simp) rfl
  ·rw [hn]
   simp
  ·rw [← hm ho]
 | succ k ih =>
  intro fuel i r q acc m hS hn hi hf hl hm
  obtain ⟨fuel, rfl⟩ : ∃ f, fuel = f + 1 := ⟨fuel - 1, by omega⟩
  have hS0 := hS
  rcases hS with ⟨a, ha, rfl, rfl⟩ | ⟨a, S, rfl, rfl, hSl⟩
  ·obtain ⟨v, r1, u, q1, a1, b1, s1, e1⟩ := ttext hs hS0
   obtain rfl := hm rfl
   obtain ⟨l, r', q', m2, g1, g2, g3, g4, g5⟩ := ih fuel (i + 1) r1 q1 (m.Names_ ++ [v]) { m with Names_ := m.Names_ ++ [u] } s1 (by rw [hn]; congr 1; omega) (by omega) (by omega) (by simp; omega) (fun ho => by obtain ⟨_, rfl⟩ := e1 ho; rfl)
   refine ⟨l, r', q', m2, ay_ ?_ g1, ay_ ?_ g2, g3, fun ho => ⟨rfl, (g4 ho).2⟩, fun ho hx => g5 ho fun x hm => ?_⟩
   ·unfold aC_
    refine ac_ (by simp <;> omega) (aa_ a1 (aa_ (bm_ (by simp; omega) (by simp; omega)) ?_))
    have e6 : w64 (((k + 1 : Nat) : Int) - 1) = (k : Int) := by rw [am_ ⟨by omega, by omega⟩]; omega
    show some (Step.next (w64 (((k + 1 : Nat) : Int) - 1), r1, m.Names_ ++ [v])) = _
    rw [e6]
   ·have e6 : w64 ((i : Int) + 1) = ((i + 1 : Nat) : Int) := by rw [am_ ⟨by omega, by omega⟩]; rfl
    rw [← e6]
    refine nx_names ?_ b1 (bm_ (xs := m.Names_) (by simp; omega) (by simp; omega))
    rw [hn]
    simp; omega
   ·rcases List.mem_append.1 hm with hm | hm
    ·exact hx x hm
    ·obtain rfl := List.mem_singleton.1 hm
     exact trivial
  ·refine ⟨acc, ⟨y, a, false⟩, ⟨S, true⟩, m, ar_ ?_, ar_ (nd_names ?_), .inr ⟨a, S, rfl, rfl, hSl⟩, (fun ho => nomatch ho), (fun ho => nomatch ho)⟩
   ·unfold aC_
    exact ab_ (by simp) rfl
   ·simp
theorem nd_qids {y3 : ref09_In × Int} {i : Int} {q : ref09_In} {m : api_Msg} (h : (decide (i < y3.2) && !q.Bad_) = false) : b3_ y3 (st i q m) = some (.done (dn q m)) := by
 unfold b3_
 exact ab_ h rfl
theorem nx_qids {y3 : ref09_In × Int} {i : Int} {q q1 : ref09_In} {m : api_Msg} {u : api_Qid} {l : List api_Qid} (h : (decide (i < y3.2) && !q.Bad_) = true) (hu : eG_ q = some (q1, u)) (hr : bF_ 24 m.Qids_ [u] = some l) : b3_ y3 (st i q m) = some (.next (st (w64 (i + 1)) q1 { m with Qids_ := l })) := by
 unfold b3_
 exact ac_ h (aa_ hu (aa_ hr rfl))
theorem tw_qids_loop (y : Str) (hs : y.length ≤ 1000000) (y3 : ref09_In × Int) (k : Nat) : ∀ (fuel i : Nat) (r : wire_reader) (q : ref09_In) (acc : List api_Qid) (m : api_Msg), Sim y r q → y3.2 = ((i + k : Nat) : Int) → i + k ≤ 65535 → k < fuel → acc.length + k ≤ 65535 → (r.ok_ = true → m.Qids_ = acc) →
  ∃ l r' q' m2, an_ aF_ fuel ((k : Int), r, acc) = some (l, r') ∧ an_ (b3_ y3) fuel (st (i : Int) q m) = some (dn q' m2) ∧ Sim y r' q' ∧ (r'.ok_ = true → r.ok_ = true ∧ m2 = { m with Qids_ := l }) ∧ (r'.ok_ = true → (∀ x ∈ acc, x.ok) → ∀ x ∈ l, x.ok) := by
 induction k with
 | zero =>
  intro fuel i r q acc m hS hn hi hf hl hm
  obtain ⟨fuel, rfl⟩ : ∃ f, fuel = f + 1 := ⟨fuel - 1, by omega⟩
  refine ⟨acc, r, q, m, ar_ ?_, ar_ (nd_qids ?_), hS, fun ho => ⟨ho, ?_⟩, fun _ h => h⟩
  ·unfold aF_
   exact ab_ (by simp) rfl
  ·rw [hn]
   simp
  ·rw [← hm ho]
 | succ k ih =>
  intro fuel i r q acc m hS hn hi hf hl hm
  obtain ⟨fuel, rfl⟩ : ∃ f, fuel = f + 1 := ⟨fuel - 1, by omega⟩
  have hS0 := hS
  rcases hS with ⟨a, ha, rfl, rfl⟩ | ⟨a, S, rfl, rfl, hSl⟩
  ·obtain ⟨v, r1, u, q1, a1, b1, s1, e1⟩ := tqid hs hS0
   obtain rfl := hm rfl
   obtain ⟨l, r', q', m2, g1, g2, g3, g4, g5⟩ := ih fuel (i + 1) r1 q1 (m.Qids_ ++ [v]) { m with Qids_ := m.Qids_ ++ [u] } s1 (by rw [hn]; congr 1; omega) (by omega) (by omega) (by simp; omega) (fun ho => by obtain ⟨_, rfl⟩ := e1 ho; rfl)
   refine ⟨l, r', q', m2, ay_ ?_ g1, ay_ ?_ g2, g3, fun ho => ⟨rfl, (g4 ho).2⟩, fun ho hx => g5 ho fun x hm => ?_⟩
   ·unfold aF_
    refine ac_ (by simp <;> omega) (aa_ a1 (aa_ (bm_ (by simp; omega) (by simp; omega)) ?_))
    have e6 : w64 (((k + 1 : Nat) : Int) - 1) = (k : Int) := by rw [am_ ⟨by omega, by omega⟩]; omega
    show some (Step.next (w64 (((k + 1 : Nat) : Int) - 1), r1, m.Qids_ ++ [v])) = _
    rw [e6]
   ·have e6 : w64 ((i : Int) + 1) = ((i + 1 : Nat) : Int) := by rw [am_ ⟨by omega, by omega⟩]; rfl
    rw [← e6]
    refine nx_qids ?_ b1 (bm_ (xs := m.Qids_) (by simp; omega) (by simp; omega))
    rw [hn]
    simp; omega
   ·rcases List.mem_append.1 hm with hm | hm
    ·exact hx x hm
    ·obtain rfl := List.mem_singleton.1 hm
     exact qid_in hs hS0 a1 (g4 ho).1
  ·refine ⟨acc, ⟨y, a, false⟩, ⟨S, true⟩, m, ar_ ?_, ar_ (nd_qids ?_), .inr ⟨a, S, rfl, rfl, hSl⟩, (fun ho => nomatch ho), (fun ho => nomatch ho)⟩
   ·unfold aF_
    exact ab_ (by simp) rfl
   ·simp
def MQ (m : api_Msg) : Prop := (∀ x ∈ m.Qids_, x.ok) ∧ m.Qid_.ok
def Fld (y : Str) (r : wire_reader) (m m' : api_Msg) (x : Option (wire_reader × api_Msg)) (z : Option (ref09_In × api_Msg)) : Prop := ∃ r1 m1 q1 m2, x = some (r1, m1) ∧ z = some (q1, m2) ∧ Sim y r1 q1 ∧ (r1.ok_ = true → r.ok_ = true ∧ (m = m' → m1 = m2)) ∧ (r1.ok_ = true → MQ m → MQ m1)
theorem f_m {y : Str} {r : wire_reader} {q : ref09_In} (m m' : api_Msg) (hs : y.length ≤ 1000000) (h : Sim y r q) : Fld y r m m' (ah_ r m 109) (aq_ q m' 1) := by
 obtain ⟨v, r1, u, q1, a1, b1, s1, e1⟩ := tnum (n := 4) (by omega) (by omega) hs h
 refine ⟨r1, { m with Msize_ := v }, q1, { m' with Msize_ := u }, ?_, ?_, s1, fun ho => ⟨(e1 ho).1, fun e => by rw [(e1 ho).2, e]⟩, fun ho h' => h'⟩
 ·unfold ah_
  exact ac_ rfl (aa_ a1 rfl)
 ·unfold aq_
  exact aa_ (ac_ rfl (aa_ b1 rfl)) rfl
theorem f_v {y : Str} {r : wire_reader} {q : ref09_In} (m m' : api_Msg) (hs : y.length ≤ 1000000) (h : Sim y r q) : Fld y r m m' (ah_ r m 118) (aq_ q m' 2) := by
 obtain ⟨v, r1, u, q1, a1, b1, s1, e1⟩ := ttext hs h
 refine ⟨r1, { m with Version_ := v }, q1, { m' with Version_ := u }, ?_, ?_, s1, fun ho => ⟨(e1 ho).1, fun e => by rw [(e1 ho).2, e]⟩, fun ho h' => h'⟩
 ·unfold ah_
  exact ab_ rfl (ac_ rfl (aa_ a1 rfl))
 ·unfold aq_
  exact aa_ (ab_ rfl (ac_ rfl (aa_ b1 rfl))) rfl
theorem f_s {y : Str} {r : wire_reader} {q : ref09_In} (m m' : api_Msg) (hs : y.length ≤ 1000000) (h : Sim y r q) : Fld y r m m' (ah_ r m 115) (aq_ q m' 3) := by
 obtain ⟨v, r1, u, q1, a1, b1, s1, e1⟩ := ttext hs h
 refine ⟨r1, { m with Session_ := v }, q1, { m' with Session_ := u }, ?_, ?_, s1, fun ho => ⟨(e1 ho).1, fun e => by rw [(e1 ho).2, e]⟩, fun ho h' => h'⟩
 ·unfold ah_
  exact ab_ rfl (ab_ rfl (ac_ rfl (aa_ a1 rfl)))
 ·unfold aq_
  exact aa_ (ab_ rfl (ab_ rfl (ac_ rfl (aa_ b1 rfl)))) rfl
theorem f_a {y : Str} {r : wire_reader} {q : ref09_In} (m m' : api_Msg) (hs : y.length ≤ 1000000) (h : Sim y r q) : Fld y r m m' (ah_ r m 97) (aq_ q m' 4) := by
 obtain ⟨v, r1, u, q1, a1, b1, s1, e1⟩ := tnum (n := 4) (by omega) (by omega) hs h
 refine ⟨r1, { m with AuthFid_ := v }, q1, { m' with AuthFid_ := u }, ?_, ?_, s1, fun ho => ⟨(e1 ho).1, fun e => by rw [(e1 ho).2, e]⟩, fun ho h' => h'⟩
 ·unfold ah_
  exact ab_ rfl (ab_ rfl (ab_ rfl (ac_ rfl (aa_ a1 rfl))))
 ·unfold aq_
  exact aa_ (ab_ rfl (ab_ rfl (ab_ rfl (ac_ rfl (aa_ b1 rfl))))) rfl
theorem f_u {y : Str} {r : wire_reader} {q : ref09_In} (m m' : api_Msg) (hs : y.length ≤ 1000000) (h : Sim y r q) : Fld y r m m' (ah_ r m 117) (aq_ q m' 5) := by
 obtain ⟨v, r1, u, q1, a1, b1, s1, e1⟩ := ttext hs h
 refine ⟨r1, { m with User_ := v }, q1, { m' with User_ := u }, ?_, ?_, s1, fun ho => ⟨(e1 ho).1, fun e => by rw [(e1 ho).2, e]⟩, fun ho h' => h'⟩
 ·unfold ah_
  exact ab_ rfl (ab_ rfl (ab_ rfl (ab_ rfl (ac_ rfl (aa_ a1 rfl)))))
 ·unfold aq_
  exact aa_ (ab_ rfl (ab_ rfl (ab_ rfl (ab_ rfl (ac_ rfl (aa_ b1 rfl)))))) rfl
theorem f_x {y : Str} {r : wire_reader} {q : ref09_In} (m m' : api_Msg) (hs : y.length ≤ 1000000) (h : Sim y r q) : Fld y r m m' (ah_ r m 120) (aq_ q m' 6) := by
 obtain ⟨v, r1, u, q1, a1, b1, s1, e1⟩ := ttext hs h
 refine ⟨r1, { m with Attach_ := v }, q1, { m' with Attach_ := u }, ?_, ?_, s1, fun ho => ⟨(e1 ho).1, fun e => by rw [(e1 ho).2, e]⟩, fun ho h' => h'⟩
 ·unfold ah_
  exact ab_ rfl (ab_ rfl (ab_ rfl (ab_ rfl (ab_ rfl (ac_ rfl (aa_ a1 rfl))))))
 ·unfold aq_
  exact aa_ (ab_ rfl (ab_ rfl (ab_ rfl (ab_ rfl (ab_ rfl (ac_ rfl (aa_ b1 rfl))))))) rfl
theorem f_q {y : Str} {r : wire_reader} {q : ref09_In} (m m' : api_Msg) (hs : y.length ≤ 1000000) (h : Sim y r q) : Fld y r m m' (ah_ r m 113) (aq_ q m' 7) := by
 obtain ⟨v, r1, u, q1, a1, b1, s1, e1⟩ := tqid hs h
 refine ⟨r1, { m with Qid_ := v }, q1, { m' with Qid_ := u }, ?_, ?_, s1, fun ho => ⟨(e1 ho).1, fun e => by rw [(e1 ho).2, e]⟩, fun ho h' => ⟨h'.1, qid_in hs h a1 ho⟩⟩
 ·unfold ah_
  exact ab_ rfl (ab_ rfl (ab_ rfl (ab_ rfl (ab_ rfl (ab_ rfl (ac_ rfl (aa_ a1 rfl)))))))
 ·unfold aq_
  exact aa_ (ab_ rfl (ab_ rfl (ab_ rfl (ab_ rfl (ab_ rfl (ab_ rfl (ac_ rfl (aa_ b1 rfl)))))))) rfl
theorem f_f {y : Str} {r : wire_reader} {q : ref09_In} (m m' : api_Msg) (hs : y.length ≤ 1000000) (h : Sim y r q) : Fld y r m m' (ah_ r m 102) (aq_ q m' 8) := by
 obtain ⟨v, r1, u, q1, a1, b1, s1, e1⟩ := tnum (n := 4) (by omega) (by omega) hs h
 refine ⟨r1, { m with Fid_ := v }, q1, { m' with Fid_ := u }, ?_, ?_, s1, fun ho => ⟨(e1 ho).1, fun e => by rw [(e1 ho).2, e]⟩, fun ho h' => h'⟩
 ·unfold ah_
  exact ab_ rfl (ab_ rfl (ab_ rfl (ab_ rfl (ab_ rfl (ab_ rfl (ab_ rfl (ac_ rfl (aa_ a1 rfl))))))))
 ·unfold aq_
  exact aa_ (ab_ rfl (ab_ rfl (ab_ rfl (ab_ rfl (ab_ rfl (ab_ rfl (ab_ rfl (ac_ rfl (aa_ b1 rfl))))))))) rfl
theorem f_e {y : Str} {r : wire_reader} {q : ref09_In} (m m' : api_Msg) (hs : y.length ≤ 1000000) (h : Sim y r q) : Fld y r m m' (ah_ r m 101) (aq_ q m' 9) := by
 obtain ⟨v, r1, u, q1, a1, b1, s1, e1⟩ := tfault hs h
 refine ⟨r1, { m with Err_ := v }, q1, { m' with Err_ := u }, ?_, ?_, s1, fun ho => ⟨(e1 ho).1, fun e => by rw [(e1 ho).2, e]⟩, fun ho h' => h'⟩
 ·unfold ah_
  exact ab_ rfl (ab_ rfl (ab_ rfl (ab_ rfl (ab_ rfl (ab_ rfl (ab_ rfl (ab_ rfl (ac_ rfl (aa_ a1 rfl)))))))))
 ·obtain ⟨x, bx, b1⟩ := gg_ b1
  obtain ⟨z, bz, b1⟩ := gg_ b1
  obtain ⟨rfl, rfl⟩ := Prod.mk.inj (Option.some.inj b1)
  unfold aq_
  refine aa_ (ab_ rfl (ab_ rfl (ab_ rfl (ab_ rfl (ab_ rfl (ab_ rfl (ab_ rfl (ab_ rfl (ab_ rfl (ab_ rfl (ab_ rfl (ab_ rfl (ab_ rfl (ab_ rfl (ab_ rfl (ab_ rfl (ab_ rfl (ab_ rfl (aa_ (a := (_, { m' with Err_ := _ })) ?_ rfl))))))))))))))))))) rfl
  unfold bG_
  exact aa_ (ac_ rfl (aa_ bx (aa_ bz rfl))) rfl
theorem f_o {y : Str} {r : wire_reader} {q : ref09_In} (m m' : api_Msg) (hs : y.length ≤ 1000000) (h : Sim y r q) : Fld y r m m' (ah_ r m 111) (aq_ q m' 10) := by
 obtain ⟨v, r1, u, q1, a1, b1, s1, e1⟩ := tnum (n := 2) (by omega) (by omega) hs h
 refine ⟨r1, { m with OldTag_ := v }, q1, { m' with OldTag_ := u }, ?_, ?_, s1, fun ho => ⟨(e1 ho).1, fun e => by rw [(e1 ho).2, e]⟩, fun ho h' => h'⟩
 ·unfold ah_
  exact ab_ rfl (ab_ rfl (ab_ rfl (ab_ rfl (ab_ rfl (ab_ rfl (ab_ rfl (ab_ rfl (ab_ rfl (ac_ rfl (aa_ a1 rfl))))))))))
 ·unfold aq_
  exact aa_ (ab_ rfl (ab_ rfl (ab_ rfl (ab_ rfl (ab_ rfl (ab_ rfl (ab_ rfl (ab_ rfl (ac_ rfl (aa_ b1 rfl)))))))))) rfl
theorem f_n {y : Str} {r : wire_reader} {q : ref09_In} (m m' : api_Msg) (hs : y.length ≤ 1000000) (h : Sim y r q) : Fld y r m m' (ah_ r m 110) (aq_ q m' 11) := by
 obtain ⟨v, r1, u, q1, a1, b1, s1, e1⟩ := tnum (n := 4) (by omega) (by omega) hs h
 refine ⟨r1, { m with NewFid_ := v }, q1, { m' with NewFid_ := u }, ?_, ?_, s1, fun ho => ⟨(e1 ho).1, fun e => by rw [(e1 ho).2, e]⟩, fun ho h' => h'⟩
 ·unfold ah_
  exact ab_ rfl (ab_ rfl (ab_ rfl (ab_ rfl (ab_ rfl (ab_ rfl (ab_ rfl (ab_ rfl (ab_ rfl (ab_ rfl (ac_ rfl (aa_ a1 rfl)))))))))))
 ·unfold aq_
  exact aa_ (ab_ rfl (ab_ rfl (ab_ rfl (ab_ rfl (ab_ rfl (ab_ rfl (ab_ rfl (ab_ rfl (ab_ rfl (ac_ rfl (aa_ b1 rfl))))))))))) rfl
theorem f_w {y : Str} {r : wire_reader} {q : ref09_In} (m m' : api_Msg) (hs : y.length ≤ 1000000) (h : Sim y r q) (hm : r.ok_ = true → m'.Names_ = []) : Fld y r m m' (ah_ r m 119) (aq_ q m' 12) := by
 rcases snum (n := 2) (by omega) (by omega) hs h with ⟨a, ha, ⟨ho, _⟩, e1, e2⟩ | ⟨v, a, e1, e2⟩
 ·have hv := fu_ y a ha
  obtain ⟨l, r', q', m2, g1, g2, g3, g4, g5⟩ := ru_ y hs (⟨y.drop (a + 2), false⟩, (leV (win y a 2) : Int)) (leV (win y a 2)) BIG 0 ⟨y, ((a + 2 : Nat) : Int), true⟩ ⟨y.drop (a + 2), false⟩ [] m' (.inl ⟨a + 2, ha, rfl, rfl⟩) (by rw [Nat.zero_add]) (by omega) (by show _ < 18446744073709551616; omega) (by simp; omega) (fun _ => hm ho)
  have x1 : bb_ r = some (l, r') := by
   unfold bb_
   exact aa_ e1 (aa_ g1 rfl)
  have x2 : bG_ q m' 12 = some (q', m2) := by
   unfold bG_
   exact aa_ (ab_ rfl (ac_ rfl (aa_ e2 (aa_ g2 rfl)))) rfl
  refine ⟨r', { m with Names_ := l }, q', m2, ?_, ?_, g3, fun ho' => ⟨ho, fun e => ?_⟩, fun ho' h => h⟩
  ·unfold ah_
   exact ab_ rfl (ab_ rfl (ab_ rfl (ab_ rfl (ab_ rfl (ab_ rfl (ab_ rfl (ab_ rfl (ab_ rfl (ab_ rfl (ab_ rfl (ac_ rfl (aa_ x1 rfl))))))))))))
  ·unfold aq_
   exact aa_ (ab_ rfl (ab_ rfl (ab_ rfl (ab_ rfl (ab_ rfl (ab_ rfl (ab_ rfl (ab_ rfl (ab_ rfl (ab_ rfl (ab_ rfl (ab_ rfl (ab_ rfl (ab_ rfl (ab_ rfl (ab_ rfl (ab_ rfl (ab_ rfl (aa_ x2 rfl))))))))))))))))))) rfl
  ·rw [(g4 ho').2, e]
 ·have x1 : bb_ r = some ([], ⟨y, a, false⟩) := by
   unfold bb_
   refine aa_ e1 (aa_ (ar_ (n := 18446744073709551615) (b := ([], (⟨y, a, false⟩ : wire_reader))) ?_) rfl)
   unfold aC_
   exact ab_ (by simp) rfl
  have x3 : an_ (b2_ (⟨[], true⟩, 0)) BIG (st 0 ⟨[], true⟩ m') = some (dn ⟨[], true⟩ m') := by
   refine ar_ (n := 18446744073709551615) ?_
   unfold b2_
   exact ab_ rfl rfl
  have x2 : bG_ q m' 12 = some (⟨[], true⟩, m') := by
   unfold bG_
   exact aa_ (ab_ rfl (ac_ rfl (aa_ e2 (aa_ x3 rfl)))) rfl
  refine ⟨⟨y, a, false⟩, { m with Names_ := [] }, ⟨[], true⟩, m', ?_, ?_, .inr ⟨a, [], rfl, rfl, ig_⟩, (fun e => nomatch e), (fun e => nomatch e)⟩
  ·unfold ah_
   exact ab_ rfl (ab_ rfl (ab_ rfl (ab_ rfl (ab_ rfl (ab_ rfl (ab_ rfl (ab_ rfl (ab_ rfl (ab_ rfl (ab_ rfl (ac_ rfl (aa_ x1 rfl))))))))))))
  ·unfold aq_
   exact aa_ (ab_ rfl (ab_ rfl (ab_ rfl (ab_ rfl (ab_ rfl (ab_ rfl (ab_ rfl (ab_ rfl (ab_ rfl (ab_ rfl (ab_ rfl (ab_ rfl (ab_ rfl (ab_ rfl (ab_ rfl (ab_ rfl (ab_ rfl (ab_ rfl (aa_ x2 rfl))))))))))))))))))) rfl
theorem f_W {y : Str} {r : wire_reader} {q : ref09_In} (m m' : api_Msg) (hs : y.length ≤ 1000000) (h : Sim y r q) (hm : r.ok_ = true → m'.Qids_ = []) : Fld y r m m' (ah_ r m 87) (aq_ q m' 13) := by
 rcases snum (n := 2) (by omega) (by omega) hs h with ⟨a, ha, ⟨ho, _⟩, e1, e2⟩ | ⟨v, a, e1, e2⟩
 ·have hv := fu_ y a ha
  obtain ⟨l, r', q', m2, g1, g2, g3, g4, g5⟩ := tw_qids_loop y hs (⟨y.drop (a + 2), false⟩, (leV (win y a 2) : Int)) (leV (win y a 2)) BIG 0 ⟨y, ((a + 2 : Nat) : Int), true⟩ ⟨y.drop (a + 2), false⟩ [] m' (.inl ⟨a + 2, ha, rfl, rfl⟩) (by rw [Nat.zero_add]) (by omega) (by show _ < 18446744073709551616; omega) (by simp; omega) (fun _ => hm ho)
  have x1 : bk_ r = some (l, r') := by
   unfold bk_
   exact aa_ e1 (aa_ g1 rfl)
  have x2 : bG_ q m' 13 = some (q', m2) := by
   unfold bG_
   exact aa_ (ab_ rfl (ab_ rfl (ac_ rfl (aa_ e2 (aa_ g2 rfl))))) rfl
  refine ⟨r', { m with Qids_ := l }, q', m2, ?_, ?_, g3, fun ho' => ⟨ho, fun e => ?_⟩, fun ho' h => ⟨g5 ho' (fun _ hx => nomatch hx), h.2⟩⟩
  ·unfold ah_
   exact ab_ rfl (ab_ rfl (ab_ rfl (ab_ rfl (ab_ rfl (ab_ rfl (ab_ rfl (ab_ rfl (ab_ rfl (ab_ rfl (ab_ rfl (ab_ rfl (ac_ rfl (aa_ x1 rfl)))))))))))))
  ·unfold aq_
   exact aa_ (ab_ rfl (ab_ rfl (ab_ rfl (ab_ rfl (ab_ rfl (ab_ rfl (ab_ rfl (ab_ rfl (ab_ rfl (ab_ rfl (ab_ rfl (ab_ rfl (ab_ rfl (ab_ rfl (ab_ rfl (ab_ rfl (ab_ rfl (ab_ rfl (aa_ x2 rfl))))))))))))))))))) rfl
  ·rw [(g4 ho').2, e]
 ·have x1 : bk_ r = some ([], ⟨y, a, false⟩) := by
   unfold bk_
   refine aa_ e1 (aa_ (ar_ (n := 18446744073709551615) (b := ([], (⟨y, a, false⟩ : wire_reader))) ?_) rfl)
   unfold aF_
   exact ab_ (by simp) rfl
  have x3 : an_ (b3_ (⟨[], true⟩, 0)) BIG (st 0 ⟨[], true⟩ m') = some (dn ⟨[], true⟩ m') := by
   refine ar_ (n := 18446744073709551615) ?_
   unfold b3_
   exact ab_ rfl rfl
  have x2 : bG_ q m' 13 = some (⟨[], true⟩, m') := by
   unfold bG_
   exact aa_ (ab_ rfl (ab_ rfl (ac_ rfl (aa_ e2 (aa_ x3 rfl))))) rfl
  refine ⟨⟨y, a, false⟩, { m with Qids_ := [] }, ⟨[], true⟩, m', ?_, ?_, .inr ⟨a, [], rfl, rfl, ig_⟩, (fun e => nomatch e), (fun e => nomatch e)⟩
  ·unfold ah_
   exact ab_ rfl (ab_ rfl (ab_ rfl (ab_ rfl (ab_ rfl (ab_ rfl (ab_ rfl (ab_ rfl (ab_ rfl (ab_ rfl (ab_ rfl (ab_ rfl (ac_ rfl (aa_ x1 rfl)))))))))))))
  ·unfold aq_
   exact aa_ (ab_ rfl (ab_ rfl (ab_ rfl (ab_ rfl (ab_ rfl (ab_ rfl (ab_ rfl (ab_ rfl (ab_ rfl (ab_ rfl (ab_ rfl (ab_ rfl (ab_ rfl (ab_ rfl (ab_ rfl (ab_ rfl (ab_ rfl (ab_ rfl (aa_ x2 rfl))))))))))))))))))) rfl
theorem f_M {y : Str} {r : wire_reader} {q : ref09_In} (m m' : api_Msg) (hs : y.length ≤ 1000000) (h : Sim y r q) : Fld y r m m' (ah_ r m 77) (aq_ q m' 14) := by
 obtain ⟨v, r1, u, q1, a1, b1, s1, e1⟩ := tnum (n := 1) (by omega) (by omega) hs h
 refine ⟨r1, { m with Mode_ := v }, q1, { m' with Mode_ := u }, ?_, ?_, s1, fun ho => ⟨(e1 ho).1, fun e => by rw [(e1 ho).2, e]⟩, fun ho h' => h'⟩
 ·unfold ah_
  exact ab_ rfl (ab_ rfl (ab_ rfl (ab_ rfl (ab_ rfl (ab_ rfl (ab_ rfl (ab_ rfl (ab_ rfl (ab_ rfl (ab_ rfl (ab_ rfl (ab_ rfl (ac_ rfl (aa_ a1 rfl))))))))))))))
 ·unfold aq_
  exact aa_ (ab_ rfl (ab_ rfl (ab_ rfl (ab_ rfl (ab_ rfl (ab_ rfl (ab_ rfl (ab_ rfl (ab_ rfl (ab_ rfl (ac_ rfl (aa_ b1 rfl)))))))))))) rfl
theorem f_i {y : Str} {r : wire_reader} {q : ref09_In} (m m' : api_Msg) (hs : y.length ≤ 1000000) (h : Sim y r q) : Fld y r m m' (ah_ r m 105) (aq_ q m' 15) := by
 obtain ⟨v, r1, u, q1, a1, b1, s1, e1⟩ := tnum (n := 4) (by omega) (by omega) hs h
 refine ⟨r1, { m with Iounit_ := v }, q1, { m' with Iounit_ := u }, ?_, ?_, s1, fun ho => ⟨(e1 ho).1, fun e => by rw [(e1 ho).2, e]⟩, fun ho h' => h'⟩
 ·unfold ah_
  exact ab_ rfl (ab_ rfl (ab_ rfl (ab_ rfl (ab_ rfl (ab_ rfl (ab_ rfl (ab_ rfl (ab_ rfl (ab_ rfl (ab_ rfl (ab_ rfl (ab_ rfl (ab_ rfl (ac_ rfl (aa_ a1 rfl)))))))))))))))
 ·unfold aq_
  exact aa_ (ab_ rfl (ab_ rfl (ab_ rfl (ab_ rfl (ab_ rfl (ab_ rfl (ab_ rfl (ab_ rfl (ab_ rfl (ab_ rfl (ab_ rfl (ac_ rfl (aa_ b1 rfl))))))))))))) rfl
theorem f_N {y : Str} {r : wire_reader} {q : ref09_In} (m m' : api_Msg) (hs : y.length ≤ 1000000) (h : Sim y r q) : Fld y r m m' (ah_ r m 78) (aq_ q m' 16) := by
 obtain ⟨v, r1, u, q1, a1, b1, s1, e1⟩ := ttext hs h
 refine ⟨r1, { m with Name_ := v }, q1, { m' with Name_ := u }, ?_, ?_, s1, fun ho => ⟨(e1 ho).1, fun e => by rw [(e1 ho).2, e]⟩, fun ho h' => h'⟩
 ·unfold ah_
  exact ab_ rfl (ab_ rfl (ab_ rfl (ab_ rfl (ab_ rfl (ab_ rfl (ab_ rfl (ab_ rfl (ab_ rfl (ab_ rfl (ab_ rfl (ab_ rfl (ab_ rfl (ab_ rfl (ab_ rfl (ac_ rfl (aa_ a1 rfl))))))))))))))))
 ·unfold aq_
  exact aa_ (ab_ rfl (ab_ rfl (ab_ rfl (ab_ rfl (ab_ rfl (ab_ rfl (ab_ rfl (ab_ rfl (ab_ rfl (ab_ rfl (ab_ rfl (ab_ rfl (ac_ rfl (aa_ b1 rfl)))))))))))))) rfl
theorem f_p {y : Str} {r : wire_reader} {q : ref09_In} (m m' : api_Msg) (hs : y.length ≤ 1000000) (h : Sim y r q) : Fld y r m m' (ah_ r m 112) (aq_ q m' 17) := by
 obtain ⟨v, r1, u, q1, a1, b1, s1, e1⟩ := tnum (n := 4) (by omega) (by omega) hs h
 refine ⟨r1, { m with Perm_ := v }, q1, { m' with Perm_ := u }, ?_, ?_, s1, fun ho => ⟨(e1 ho).1, fun e => by rw [(e1 ho).2, e]⟩, fun ho h' => h'⟩
 ·unfold ah_
  exact ab_ rfl (ab_ rfl (ab_ rfl (ab_ rfl (ab_ rfl (ab_ rfl (ab_ rfl (ab_ rfl (ab_ rfl (ab_ rfl (ab_ rfl (ab_ rfl (ab_ rfl (ab_ rfl (ab_ rfl (ab_ rfl (ac_ rfl (aa_ a1 rfl)))))))))))))))))
 ·unfold aq_
  exact aa_ (ab_ rfl (ab_ rfl (ab_ rfl (ab_ rfl (ab_ rfl (ab_ rfl (ab_ rfl (ab_ rfl (ab_ rfl (ab_ rfl (ab_ rfl (ab_ rfl (ab_ rfl (ac_ rfl (aa_ b1 rfl))))))))))))))) rfl
theorem f_O {y : Str} {r : wire_reader} {q : ref09_In} (m m' : api_Msg) (hs : y.length ≤ 1000000) (h : Sim y r q) : Fld y r m m' (ah_ r m 79) (aq_ q m' 18) := by
 obtain ⟨v, r1, u, q1, a1, b1, s1, e1⟩ := tnum (n := 8) (by omega) (by omega) hs h
 refine ⟨r1, { m with Offset_ := v }, q1, { m' with Offset_ := u }, ?_, ?_, s1, fun ho => ⟨(e1 ho).1, fun e => by rw [(e1 ho).2, e]⟩, fun ho h' => h'⟩
 ·unfold ah_
  exact ab_ rfl (ab_ rfl (ab_ rfl (ab_ rfl (ab_ rfl (ab_ rfl (ab_ rfl (ab_ rfl (ab_ rfl (ab_ rfl (ab_ rfl (ab_ rfl (ab_ rfl (ab_ rfl (ab_ rfl (ab_ rfl (ab_ rfl (ac_ rfl (aa_ a1 rfl))))))))))))))))))
 ·unfold aq_
  exact aa_ (ab_ rfl (ab_ rfl (ab_ rfl (ab_ rfl (ab_ rfl (ab_ rfl (ab_ rfl (ab_ rfl (ab_ rfl (ab_ rfl (ab_ rfl (ab_ rfl (ab_ rfl (ab_ rfl (ac_ rfl (aa_ b1 rfl)))))))))))))))) rfl
theorem f_c {y : Str} {r : wire_reader} {q : ref09_In} (m m' : api_Msg) (hs : y.length ≤ 1000000) (h : Sim y r q) : Fld y r m m' (ah_ r m 99) (aq_ q m' 19) := by
 obtain ⟨v, r1, u, q1, a1, b1, s1, e1⟩ := tnum (n := 4) (by omega) (by omega) hs h
 refine ⟨r1, { m with Count_ := v }, q1, { m' with Count_ := u }, ?_, ?_, s1, fun ho => ⟨(e1 ho).1, fun e => by rw [(e1 ho).2, e]⟩, fun ho h' => h'⟩
 ·unfold ah_
  exact ab_ rfl (ab_ rfl (ab_ rfl (ab_ rfl (ab_ rfl (ab_ rfl (ab_ rfl (ab_ rfl (ab_ rfl (ab_ rfl (ab_ rfl (ab_ rfl (ab_ rfl (ab_ rfl (ab_ rfl (ab_ rfl (ab_ rfl (ab_ rfl (ac_ rfl (aa_ a1 rfl)))))))))))))))))))
 ·unfold aq_
  exact aa_ (ab_ rfl (ab_ rfl (ab_ rfl (ab_ rfl (ab_ rfl (ab_ rfl (ab_ rfl (ab_ rfl (ab_ rfl (ab_ rfl (ab_ rfl (ab_ rfl (ab_ rfl (ab_ rfl (ab_ rfl (ac_ rfl (aa_ b1 rfl))))))))))))))))) rfl
theorem f_d {y : Str} {r : wire_reader} {q : ref09_In} (m m' : api_Msg) (hs : y.length ≤ 1000000) (h : Sim y r q) : Fld y r m m' (ah_ r m 100) (aq_ q m' 20) := by
 obtain ⟨v, r1, u, q1, a1, b1, s1, e1⟩ := tdata (n := 4) (by omega) (by omega) hs h
 refine ⟨r1, { m with Data_ := v }, q1, { m' with Data_ := u }, ?_, ?_, s1, fun ho => ⟨(e1 ho).1, fun e => by rw [(e1 ho).2, e]⟩, fun ho h' => h'⟩
 ·unfold ah_
  exact ab_ rfl (ab_ rfl (ab_ rfl (ab_ rfl (ab_ rfl (ab_ rfl (ab_ rfl (ab_ rfl (ab_ rfl (ab_ rfl (ab_ rfl (ab_ rfl (ab_ rfl (ab_ rfl (ab_ rfl (ab_ rfl (ab_ rfl (ab_ rfl (ab_ rfl (ac_ rfl (aa_ a1 rfl))))))))))))))))))))
 ·obtain ⟨x, bx, b1⟩ := gg_ b1
  unfold aq_
  refine aa_ (ab_ rfl (ab_ rfl (ab_ rfl (ab_ rfl (ab_ rfl (ab_ rfl (ab_ rfl (ab_ rfl (ab_ rfl (ab_ rfl (ab_ rfl (ab_ rfl (ab_ rfl (ab_ rfl (ab_ rfl (ab_ rfl (ab_ rfl (ab_ rfl (aa_ (a := (_, { m' with Data_ := _ })) ?_ rfl))))))))))))))))))) rfl
  unfold bG_
  exact aa_ (ab_ rfl (ab_ rfl (ab_ rfl (ac_ rfl (aa_ bx (aa_ b1 rfl)))))) rfl
theorem f_S {y : Str} {r : wire_reader} {q : ref09_In} (m m' : api_Msg) (hs : y.length ≤ 1000000) (h : Sim y r q) : Fld y r m m' (ah_ r m 83) (aq_ q m' 21) := by
 obtain ⟨v, r1, u, q1, a1, b1, s1, e1⟩ := tstat hs h
 refine ⟨r1, { m with Stat_ := v }, q1, { m' with Stat_ := u }, ?_, ?_, s1, fun ho => ⟨(e1 ho).1, fun e => by rw [(e1 ho).2, e]⟩, fun ho h' => h'⟩
 ·unfold ah_
  exact ab_ rfl (ab_ rfl (ab_ rfl (ab_ rfl (ab_ rfl (ab_ rfl (ab_ rfl (ab_ rfl (ab_ rfl (ab_ rfl (ab_ rfl (ab_ rfl (ab_ rfl (ab_ rfl (ab_ rfl (ab_ rfl (ab_ rfl (ab_ rfl (ab_ rfl (ab_ rfl (ac_ rfl (aa_ a1 rfl)))))))))))))))))))))
 ·obtain ⟨x, bx, b1⟩ := gg_ b1
  obtain ⟨z, bz, b1⟩ := gg_ b1
  obtain ⟨d, bd, b1⟩ := gg_ b1
  obtain ⟨rfl, rfl⟩ := Prod.mk.inj (Option.some.inj b1)
  unfold aq_
  refine aa_ (ab_ rfl (ab_ rfl (ab_ rfl (ab_ rfl (ab_ rfl (ab_ rfl (ab_ rfl (ab_ rfl (ab_ rfl (ab_ rfl (ab_ rfl (ab_ rfl (ab_ rfl (ab_ rfl (ab_ rfl (ab_ rfl (ab_ rfl (ab_ rfl (aa_ (a := (_, { m' with Stat_ := _ })) ?_ rfl))))))))))))))))))) rfl
  unfold bG_
  exact aa_ (ab_ rfl (ab_ rfl (ab_ rfl (ab_ rfl (ac_ rfl (aa_ bx (aa_ bz (aa_ bd rfl)))))))) rfl
theorem f_l {y : Str} {r : wire_reader} {q : ref09_In} (m m' : api_Msg) (hs : y.length ≤ 1000000) (h : Sim y r q) : Fld y r m m' (ah_ r m 108) (aq_ q m' 22) := by
 obtain ⟨v, r1, u, q1, a1, b1, s1, e1⟩ := tnum (n := 1) (by omega) (by omega) hs h
 refine ⟨r1, { m with Lease_ := v }, q1, { m' with Lease_ := u }, ?_, ?_, s1, fun ho => ⟨(e1 ho).1, fun e => by rw [(e1 ho).2, e]⟩, fun ho h' => h'⟩
 ·unfold ah_
  exact ab_ rfl (ab_ rfl (ab_ rfl (ab_ rfl (ab_ rfl (ab_ rfl (ab_ rfl (ab_ rfl (ab_ rfl (ab_ rfl (ab_ rfl (ab_ rfl (ab_ rfl (ab_ rfl (ab_ rfl (ab_ rfl (ab_ rfl (ab_ rfl (ab_ rfl (ab_ rfl (ab_ rfl (ac_ rfl (aa_ a1 rfl))))))))))))))))))))))
 ·unfold aq_
  exact aa_ (ab_ rfl (ab_ rfl (ab_ rfl (ab_ rfl (ab_ rfl (ab_ rfl (ab_ rfl (ab_ rfl (ab_ rfl (ab_ rfl (ab_ rfl (ab_ rfl (ab_ rfl (ab_ rfl (ab_ rfl (ab_ rfl (ac_ rfl (aa_ b1 rfl)))))))))))))))))) rfl
theorem f_t {y : Str} {r : wire_reader} {q : ref09_In} (m m' : api_Msg) (hs : y.length ≤ 1000000) (h : Sim y r q) : Fld y r m m' (ah_ r m 116) (aq_ q m' 23) := by
 obtain ⟨v, r1, u, q1, a1, b1, s1, e1⟩ := tnum (n := 4) (by omega) (by omega) hs h
 refine ⟨r1, { m with Term_ := v }, q1, { m' with Term_ := u }, ?_, ?_, s1, fun ho => ⟨(e1 ho).1, fun e => by rw [(e1 ho).2, e]⟩, fun ho h' => h'⟩
 ·unfold ah_
  exact ab_ rfl (ab_ rfl (ab_ rfl (ab_ rfl (ab_ rfl (ab_ rfl (ab_ rfl (ab_ rfl (ab_ rfl (ab_ rfl (ab_ rfl (ab_ rfl (ab_ rfl (ab_ rfl (ab_ rfl (ab_ rfl (ab_ rfl (ab_ rfl (ab_ rfl (ab_ rfl (ab_ rfl (ab_ rfl (ac_ rfl (aa_ a1 rfl)))))))))))))))))))))))
 ·unfold aq_
  exact aa_ (ab_ rfl (ab_ rfl (ab_ rfl (ab_ rfl (ab_ rfl (ab_ rfl (ab_ rfl (ab_ rfl (ab_ rfl (ab_ rfl (ab_ rfl (ab_ rfl (ab_ rfl (ab_ rfl (ab_ rfl (ab_ rfl (ab_ rfl (ac_ rfl (aa_ b1 rfl))))))))))))))))))) rfl
theorem tfield (k : Lt) {y : Str} {r : wire_reader} {q : ref09_In} (m m' : api_Msg) (hs : y.length ≤ 1000000) (h : Sim y r q) (hw : k = .w → r.ok_ = true → m'.Names_ = []) (hW : k = .W → r.ok_ = true → m'.Qids_ = []) : Fld y r m m' (ah_ r m (k.byte : Int)) (aq_ q m' k.num) := by
 cases k with
 | m => exact f_m m m' hs h
 | v => exact f_v m m' hs h
 | s => exact f_s m m' hs h
 | a => exact f_a m m' hs h
 | u => exact f_u m m' hs h
 | x => exact f_x m m' hs h
 | q => exact f_q m m' hs h
 | f => exact f_f m m' hs h
 | e => exact f_e m m' hs h
 | o => exact f_o m m' hs h
 | n => exact f_n m m' hs h
 | w => exact f_w m m' hs h (hw rfl)
 | W => exact f_W m m' hs h (hW rfl)
 | M => exact f_M m m' hs h
 | i => exact f_i m m' hs h
 | N => exact f_N m m' hs h
 | p => exact f_p m m' hs h
 | O => exact f_O m m' hs h
 | c => exact f_c m m' hs h
 | d => exact f_d m m' hs h
 | S => exact f_S m m' hs h
 | l => exact f_l m m' hs h
 | t => exact f_t m m' hs h
abbrev GsT : Type := Int × Int × Int × Int × Int × Int × Int × Int × Str × Str × Str × Int × Int × Int × Int × Int × Int × Str × Int × Int × Str × Int × Int × Int × Int × Int × Int × Int × Int × Int × Str × Str × Str × Str × Int × Int × Int × Str × (List Str) × (List api_Qid) × ref09_In
abbrev GdT : Type := Int × Int × Int × Int × Int × Int × Int × Str × Str × Str × Int × Int × Int × Int × Int × Int × Str × Int × Int × Str × Int × Int × Int × Int × Int × Int × Int × Int × Int × Str × Str × Str × Str × Int × Int × Int × Str × (List Str) × (List api_Qid) × ref09_In
def gdn (m : api_Msg) (q : ref09_In) : GdT := (m.Kind_, m.Tag_, m.Fid_, m.NewFid_, m.AuthFid_, m.OldTag_, m.Msize_, m.Version_, m.User_, m.Attach_, m.Qid_.Type_, m.Qid_.Vers_, m.Qid_.Path_, m.Iounit_, m.Mode_, m.Perm_, m.Name_, m.Offset_, m.Count_, m.Data_, m.Stat_.Type_, m.Stat_.Dev_, m.Stat_.Qid_.Type_, m.Stat_.Qid_.Vers_, m.Stat_.Qid_.Path_, m.Stat_.Mode_, m.Stat_.Atime_, m.Stat_.Mtime_, m.Stat_.Length_, m.Stat_.Name_, m.Stat_.Uid_, m.Stat_.Gid_, m.Stat_.Muid_, m.Err_, m.Lease_, m.Term_, m.Session_, m.Names_, m.Qids_, q)
def gst (i : Int) (m : api_Msg) (q : ref09_In) : GsT := (i, gdn m q)
theorem ng_done {Y : List Int × Bool} {i : Int} {m : api_Msg} {q : ref09_In} (h : decide (i < (Y.1.length : Int)) = false) : eI_ Y (gst i m q) = some (.done (gdn m q)) := by
 unfold eI_
 exact ab_ h rfl
theorem ng_next {Y : List Int × Bool} {i n : Int} {m m1 : api_Msg} {q q1 : ref09_In} (h : decide (i < (Y.1.length : Int)) = true) (hi : au_ Y.1 i = some n) (hr : aq_ q m n = some (q1, m1)) : eI_ Y (gst i m q) = some (.next (gst (w64 (i + 1)) m1 q1)) := by
 unfold eI_
 exact ac_ h (aa_ hi (aa_ hr rfl))
end Go.Proofs.YtolgkhjkdadhiaaGreat
namespace Go.Proofs.YtolgkhjkdadhiaaGreat
open Go.Rt Go.RowKit
theorem Sim.rs {y : Str} {r : wire_reader} {q : ref09_In} (h : Sim y r q) : RS y r := by
 rcases h with ⟨a, ha, rfl, rfl⟩ | ⟨a, S, rfl, rfl, hS⟩
 ·exact ⟨rfl, fun _ => ⟨a, rfl, ha⟩⟩
 ·exact ⟨rfl, fun e => nomatch e⟩
theorem cp_names {k : Lt} (h : k ≠ .w) (m' m : api_Msg) : (cpF k m' m).Names_ = m.Names_ := by cases k <;> first | exact absurd rfl h | rfl
theorem cp_qids {k : Lt} (h : k ≠ .W) (m' m : api_Msg) : (cpF k m' m).Qids_ = m.Qids_ := by cases k <;> first | exact absurd rfl h | rfl
theorem get_loops (y : Str) (hs : y.length ≤ 1000000) (L : List Lt) (hL : L.length ≤ 100) (B : Bool) (l : List Lt) : ∀ (fuel i : Nat) (r : wire_reader) (q : ref09_In) (m m' : api_Msg), L.drop i = l → i + l.length = L.length → l.Nodup → l.length < fuel → Sim y r q → (r.ok_ = true → m = m') → (r.ok_ = true → .w ∈ l → m.Names_ = []) → (r.ok_ = true → .W ∈ l → m.Qids_ = []) →
  ∃ mf r' q' mf', an_ (cs_ (dM_ L)) fuel ((i : Int), r, m) = some (r', mf) ∧ an_ (eI_ (L.map Lt.num, B)) fuel (gst (i : Int) m' q) = some (gdn mf' q') ∧ Sim y r' q' ∧ (r'.ok_ = true → r.ok_ = true ∧ mf = mf') ∧ (r'.ok_ = true → MQ m → MQ mf) := by
 induction l with
 | nil =>
  intro fuel i r q m m' hd hi _ hf hS hm _ _
  obtain ⟨fuel, rfl⟩ : ∃ f, fuel = f + 1 := ⟨fuel - 1, by omega⟩
  simp only [List.length_nil] at hi
  refine ⟨m, r, q, m', ar_ ?_, ar_ (ng_done ?_), hS, fun ho => ⟨ho, hm ho⟩, fun _ h => h⟩
  ·unfold cs_
   exact ab_ (by rw [e9_]; simp; omega) rfl
  ·simp; omega
 | cons k l ih =>
  intro fuel i r q m m' hd hi hn hf hS hm hw hW
  obtain ⟨fuel, rfl⟩ : ∃ f, fuel = f + 1 := ⟨fuel - 1, by omega⟩
  simp only [List.length_cons] at hi hf
  have hlt : i < L.length := by omega
  rw [List.drop_eq_getElem_cons hlt] at hd
  simp only [List.cons.injEq] at hd
  obtain ⟨hk, hd⟩ := hd
  obtain ⟨hn1, hn2⟩ := List.nodup_cons.1 hn
  obtain ⟨mc, rc, ec, _⟩ := fstep k m hS.rs hs
  obtain ⟨r1, m1, q1, m2, a1, b1, s1, e1, f1⟩ := tfield k m m' hs hS (fun hk ho => by rw [← hm ho]; exact hw ho (by rw [hk]; exact List.mem_cons_self ..)) (fun hk ho => by rw [← hm ho]; exact hW ho (by rw [hk]; exact List.mem_cons_self ..))
  obtain ⟨rfl, rfl⟩ := Prod.mk.inj (Option.some.inj (ec.symm.trans a1))
  obtain ⟨mf, r', q', mf', g1, g2, g3, g4, g5⟩ := ih fuel (i + 1) rc q1 (cpF k mc m) m2 hd (by omega) hn2 (by omega) s1 (fun ho => (e1 ho).2 (hm (e1 ho).1)) (fun ho hm' => by
   rw [cp_names (fun e => by subst e; exact hn1 hm')]
   exact hw (e1 ho).1 (List.mem_cons_of_mem _ hm')) (fun ho hm' => by
   rw [cp_qids (fun e => by subst e; exact hn1 hm')]
   exact hW (e1 ho).1 (List.mem_cons_of_mem _ hm'))
  have e6 : w64 ((i : Int) + 1) = ((i + 1 : Nat) : Int) := by rw [am_ ⟨by omega, by omega⟩]; rfl
  refine ⟨mf, r', q', mf', ay_ ?_ g1, ay_ ?_ g2, g3, fun ho => ⟨(e1 (g4 ho).1).1, (g4 ho).2⟩, fun ho h => g5 ho (f1 (g4 ho).1 h)⟩
  ·unfold cs_
   refine ac_ (by rw [e9_]; simp; omega) (aa_ (kD_ L i hlt) ?_)
   rw [hk]
   refine aa_ ec ?_
   rw [← e6]
  ·rw [← e6]
   refine ng_next (n := k.num) (by simp; omega) ?_ b1
   rw [az_ (by simp; omega)]
   simp [hk]
theorem num_there {y : Str} {a n : Nat} (h1 : 1 ≤ n) (h4 : n ≤ 4) (h : a + n ≤ y.length) (hs : y.length ≤ 1000000) : al_ ⟨y, (a : Int), true⟩ (n : Int) = some ((leV (win y a n) : Int), ⟨y, ((a + n : Nat) : Int), true⟩) ∧ aw_ ⟨y.drop a, false⟩ (n : Int) = some (⟨y.drop (a + n), false⟩, (leV (win y a n) : Int)) := by
 have hv := fV_ (win y a n)
 rw [by_ h] at hv
 have hp : (2 : Nat) ^ (8 * n) ≤ 2 ^ 32 := Nat.pow_le_pow_right (by omega) (by omega)
 rcases snum (n := n) h1 (by omega) hs (.inl ⟨a, by omega, rfl, rfl⟩) with ⟨a', ha', _, e1, e2⟩ | ⟨v, a', e1, _⟩
 ·have hg := fW_ y a n h1 (by omega) (by omega) (by omega)
  rw [if_neg (by omega), if_neg (by omega)] at hg
  have hw : al_ ⟨y, (a : Int), true⟩ (n : Int) = some ((leV (win y a n) : Int), ⟨y, ((a + n : Nat) : Int), true⟩) := by
   unfold al_
   exact ab_ rfl (aa_ hg (ab_ rfl rfl))
  have := hw.symm.trans e1
  simp only [Option.some.injEq, Prod.mk.injEq, wire_reader.mk.injEq, true_and, and_true] at this
  have haa : a' = a := by omega
  subst haa
  exact ⟨e1, e2⟩
 ·have hg := fW_ y a n h1 (by omega) (by omega) (by omega)
  rw [if_neg (by omega), if_neg (by omega)] at hg
  have hw : al_ ⟨y, (a : Int), true⟩ (n : Int) = some ((leV (win y a n) : Int), ⟨y, ((a + n : Nat) : Int), true⟩) := by
   unfold al_
   exact ab_ rfl (aa_ hg (ab_ rfl rfl))
  have := hw.symm.trans e1
  simp at this
def ld_ (n : Nat) : Bool := [100, 101, 102, 103, 104, 105, 107, 108, 109, 110, 111, 112, 113, 114, 115, 116, 117, 118, 119, 120, 121, 122, 123, 124, 125, 126, 127, 128, 129, 130, 131].contains n
theorem kinds_all : (List.range 256).all (fun n => ld_ n || (decide (cR_ (n : Int) = some ([], false)) && decide (br_ (n : Int) = some []) && decide (bz_ (n : Int) = some []))) = true := by kernel_rfl
theorem kind_out {n : Nat} (h : n < 256) (hk : ld_ n = false) : cR_ (n : Int) = some ([], false) ∧ br_ (n : Int) = some [] ∧ bz_ (n : Int) = some [] := by
 have := List.all_eq_true.1 kinds_all n (List.mem_range.2 h)
 simp only [hk, Bool.false_or, Bool.and_eq_true, decide_eq_true_eq] at this
 exact ⟨this.1.1, this.1.2, this.2⟩
theorem kind_is {n : Nat} (hk : ld_ n = true) : lc_ (n : Int) := by
 unfold ld_ at hk
 simp only [List.contains_iff_mem, List.mem_cons, List.not_mem_nil, or_false] at hk
 unfold lc_
 omega
theorem zero_ok (k t : Int) : (bW_ k t).ok := ⟨cz_ k t, (fun _ h => nomatch h), by
 show InK .i64 0 ∧ InK .i64 0 ∧ InK .i64 0
 have : InK .i64 0 := show (-9223372036854775808 : Int) ≤ 0 ∧ (0 : Int) ≤ 9223372036854775807 from ⟨by omega, by omega⟩
 exact ⟨this, this, this⟩⟩
theorem kind_lay {n : Nat} (h : n < 256) : ∃ (l : List Lt) (b : Bool) (nm : Str), bz_ (n : Int) = some (dM_ l) ∧ cR_ (n : Int) = some (l.map Lt.num, b) ∧ br_ (n : Int) = some nm ∧ (nm == []) = (!b) ∧ l.Nodup ∧ l.length ≤ 100 := by
 cases hk : ld_ n with
 | false =>
  obtain ⟨h1, h2, h3⟩ := kind_out h hk
  exact ⟨[], false, [], h3, h1, h2, rfl, List.nodup_nil, by simp⟩
 | true =>
  obtain ⟨l, t, e1, e2, e3, e4, _, e6, _⟩ := mK_ (bW_ (n : Int) 0) (kind_is hk) (zero_ok _ _)
  obtain ⟨l', d1, d2, _⟩ := lay_any (n : Int)
  obtain rfl : l' = l := j5_ (Option.some.inj (d1.symm.trans e4))
  exact ⟨l', true, t, e4, e6, e1, by rw [e2]; rfl, d2, e3⟩
end Go.Proofs.YtolgkhjkdadhiaaGreat
