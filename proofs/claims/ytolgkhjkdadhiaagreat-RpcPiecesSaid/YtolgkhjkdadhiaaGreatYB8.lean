/-
 What the statements of this seat hang on, part 8: Qzh Qzi Qzc Fa0 Va Vb Vc Fh0 Vd Ve Vf Vg Vh Vi.
-/
import Derived.Test.YtolgkhjkdadhiaaGreatYB7
import Derived.KernelRfl
namespace Go.Proofs.YtolgkhjkdadhiaaGreat
open Go.Rt Go.RowKit
theorem win_tail {s : Str} {A z : Nat} : win s (A + 4) (z - 4) = (win s A z).drop 4 := by
 simp only [win, List.drop_take, List.drop_drop]
theorem get_both (s : Str) (x : Int) (hs : s.length ≤ 1000000) : ∃ v, bS_ s x = some v ∧ ej_ s x = some v ∧ v.1.small := by
 unfold bS_ ej_
 by_cases ha : x < 0 ∨ x > s.length
 ·exact ⟨_, aa_ (get_none s x ha) rfl, ac_ (by simpa using ha) rfl, cz_ 0 0⟩
 obtain ⟨A, rfl⟩ : ∃ A : Nat, x = (A : Int) := ⟨x.toNat, by omega⟩
 have hA : A ≤ s.length := by omega
 have hA2 : (decide ((A : Int) < 0) || decide ((A : Int) > (s.length : Int))) = false := by simp; omega
 have e0 := fW_ s A 4 (by omega) (by omega) hA (by omega)
 have r0 := r02_at s A 4 (by omega) (by omega) hA (by omega)
 rw [show ((4 : Nat) : Int) = 4 from rfl] at e0 r0
 by_cases c1 : s.length - A < 4
 ·rw [if_pos c1] at e0 r0
  exact ⟨_, aa_ e0 rfl, ab_ hA2 (aa_ r0 rfl), cz_ 0 0⟩
 rw [if_neg c1] at e0 r0
 by_cases c2 : leV (win s A 4) > 9223372036854775807
 ·rw [if_pos c2] at e0 r0
  exact ⟨_, aa_ e0 rfl, ab_ hA2 (aa_ r0 rfl), cz_ 0 0⟩
 rw [if_neg c2] at e0 r0
 generalize hz : leV (win s A 4) = z at e0 r0 c2
 by_cases c3 : z > 8192
 ·exact ⟨_, aa_ e0 (ab_ rfl (ac_ (by simp; omega) rfl)), ab_ hA2 (aa_ r0 (ab_ rfl (ac_ (by simp; omega) rfl))), cz_ 0 0⟩
 have h3 : decide ((z : Int) > 8192) = false := by simp; omega
 by_cases c4 : z < 7
 ·exact ⟨_, aa_ e0 (ab_ rfl (ab_ h3 (ac_ (by simp; omega) rfl))), ab_ hA2 (aa_ r0 (ab_ rfl (ab_ h3 (ac_ (by simp; omega) rfl)))), cz_ 0 0⟩
 have h4 : decide ((z : Int) < 7) = false := by simp; omega
 have el : w64 ((s.length : Int) - (A : Int)) = ((s.length - A : Nat) : Int) := by rw [am_ ⟨by omega, by omega⟩]; omega
 by_cases c5 : z > s.length - A
 ·exact ⟨_, aa_ e0 (ab_ rfl (ab_ h3 (ab_ h4 (ac_ (by rw [el]; simp; omega) rfl)))), ab_ hA2 (aa_ r0 (ab_ rfl (ab_ h3 (ab_ h4 (ac_ (by rw [el]; simp; omega) rfl))))), cz_ 0 0⟩
 have h5 : decide ((z : Int) > w64 ((s.length : Int) - (A : Int))) = false := by rw [el]; simp; omega
 have e1 := db_ s A z (by omega) (by omega)
 have r1 := db_ s (A + 4) (z - 4) (by omega) (by omega)
 have hA4 : w64 ((A : Int) + 4) = ((A + 4 : Nat) : Int) := by rw [am_ ⟨by omega, by omega⟩]; rfl
 have hAz : w64 (((A + 4 : Nat) : Int) + ((z - 4 : Nat) : Int)) = w64 ((A : Int) + (z : Int)) := by congr 1; omega
 rw [hAz, win_tail] at r1
 rw [← hA4] at r1
 have hy : (win s A z).length = z := by_ (by omega)
 generalize hy' : win s A z = y at e1 r1 hy
 obtain ⟨n1, m1⟩ := num_there (y := y) (a := 4) (n := 1) (by omega) (by omega) (by omega) (by omega)
 obtain ⟨n2, m2⟩ := num_there (y := y) (a := 4 + 1) (n := 2) (by omega) (by omega) (by omega) (by omega)
 have hk := fV_ (win y 4 1)
 rw [by_ (by omega)] at hk
 generalize leV (win y 4 1) = kd at n1 m1 hk
 generalize leV (win y (4 + 1) 2) = tg at n2 m2
 obtain ⟨L, b, nm, k1, k2, k3, k4, k5, k6⟩ := kind_lay (n := kd) (by omega)
 have hB : BIG = 18446744073709551616 := rfl
 obtain ⟨mf, r', q', mf', g1, g2, g3, g4, g5⟩ := get_loops y (by omega) L k6 b L BIG 0 ⟨y, ((4 + 1 + 2 : Nat) : Int), true⟩ ⟨y.drop (4 + 1 + 2), false⟩ (bW_ (kd : Int) (tg : Int)) (bW_ (kd : Int) (tg : Int)) rfl (by omega) k5 (by omega) (.inl ⟨4 + 1 + 2, by omega, rfl, rfl⟩) (fun _ => rfl) (fun _ _ => rfl) (fun _ _ => rfl)
 obtain ⟨mg, rg, gg, _, kk, _, _, sm⟩ := gloop y (by omega) L k6 L BIG 0 ⟨y, ((4 + 1 + 2 : Nat) : Int), true⟩ (bW_ (kd : Int) (tg : Int)) rfl (by omega) k5 (by omega) ⟨rfl, fun _ => ⟨4 + 1 + 2, rfl, by omega⟩⟩
 obtain ⟨rfl, rfl⟩ := Prod.mk.inj (Option.some.inj (gg.symm.trans g1))
 have kn : br_ mg.Kind_ = some nm := by rw [kk]; exact k3
 have wire : ∀ {r}, (bif (((nm == []) || (!rg.ok_)) || (rg.at_ != (z : Int))) then some ((api_Msg.mk 0 0 0 0 0 0 0 [] [] [] [] [] (api_Qid.mk 0 0 0) 0 0 0 [] 0 0 [] (api_Dir.mk 0 0 (api_Qid.mk 0 0 0) 0 0 0 0 [] [] [] []) 0 0 0 []), (0 : Int), (2 : Int)) else Option.bind (aX_ mg) fun (y11 : Int) =>
   (bif (y11 != 0) then some (((api_Msg.mk 0 0 0 0 0 0 0 [] [] [] [] [] (api_Qid.mk 0 0 0) 0 0 0 [] 0 0 [] (api_Dir.mk 0 0 (api_Qid.mk 0 0 0) 0 0 0 0 [] [] [] []) 0 0 0 []), 0, y11)) else some ((mg, (w64 ((A : Int) + (z : Int))), 0)))) = r → bS_ s (A : Int) = r := fun {r} h => by
  unfold bS_
  exact aa_ e0 (ab_ rfl (ab_ h3 (ab_ h4 (ab_ h5 (aa_ e1 (aa_ n1 (aa_ n2 (aa_ k1 (aa_ g1 (aa_ kn h))))))))))
 have refr : ∀ {r}, (bif (((!b) || q'.Bad_) || (!(q'.S_ == []))) then some ((api_Msg.mk 0 0 0 0 0 0 0 [] [] [] [] [] (api_Qid.mk 0 0 0) 0 0 0 [] 0 0 [] (api_Dir.mk 0 0 (api_Qid.mk 0 0 0) 0 0 0 0 [] [] [] []) 0 0 0 []), (0 : Int), (2 : Int)) else Option.bind (ch_ mf') fun (y11 : Int) =>
   (bif (y11 != 0) then some (((api_Msg.mk 0 0 0 0 0 0 0 [] [] [] [] [] (api_Qid.mk 0 0 0) 0 0 0 [] 0 0 [] (api_Dir.mk 0 0 (api_Qid.mk 0 0 0) 0 0 0 0 [] [] [] []) 0 0 0 []), 0, y11)) else some ((mf', (w64 ((A : Int) + (z : Int))), 0)))) = r → ej_ s (A : Int) = r := fun {r} h => by
  unfold ej_
  exact ab_ hA2 (aa_ r0 (ab_ rfl (ab_ h3 (ab_ h4 (ab_ h5 (aa_ r1 (aa_ m1 (aa_ m2 (aa_ k2 (aa_ g2 h))))))))))
 suffices hgoal : ∃ v, bS_ s (A : Int) = some v ∧ ej_ s (A : Int) = some v ∧ v.1.small by
  unfold bS_ ej_ at hgoal
  exact hgoal
 rcases g3 with ⟨p, hp, rfl, rfl⟩ | ⟨p, S, rfl, rfl, _⟩
 ·obtain ⟨_, rfl⟩ := g4 rfl
  have hq : (!(y.drop p == [])) = ((p : Int) != (z : Int)) := by
   rw [Bool.eq_iff_iff]
   simp only [Bool.not_eq_true', beq_eq_false_iff_ne, ne_eq, bne_iff_ne, List.drop_eq_nil_iff]
   omega
  cases c6 : ((!b) || ((p : Int) != (z : Int))) with
  | true => exact ⟨_, wire (ac_ (by rw [k4]; simpa using c6) rfl), refr (ac_ (by rw [hq]; simpa using c6) rfl), cz_ 0 0⟩
  | false =>
   have hsm : mg.small := sm rfl (cz_ _ _)
   have hmq := g5 rfl ⟨(zero_ok (kd : Int) (tg : Int)).qids, (zero_ok (kd : Int) (tg : Int)).qid⟩
   have hok : mg.ok := ⟨hsm, hmq.1, hmq.2⟩
   obtain ⟨c, e7⟩ := hF_ mg hsm
   have e8 : ch_ mg = some c := (lV_ mg hok).trans e7
   have cw : (((nm == []) || (!true)) || ((p : Int) != (z : Int))) = false := by rw [k4]; simpa using c6
   have cr : (((!b) || false) || (!(y.drop p == []))) = false := by rw [hq]; simpa using c6
   by_cases hc : c = 0
   ·subst hc
    exact ⟨_, wire (ab_ cw (aa_ e7 (ab_ rfl rfl))), refr (ab_ cr (aa_ e8 (ab_ rfl rfl))), hsm⟩
   ·have hc' : (c != 0) = true := by simpa using hc
    exact ⟨_, wire (ab_ cw (aa_ e7 (ac_ hc' rfl))), refr (ab_ cr (aa_ e8 (ac_ hc' rfl))), cz_ 0 0⟩
 ·exact ⟨_, wire (ac_ (by simp) rfl), refr (ac_ (by simp) rfl), cz_ 0 0⟩
end Go.Proofs.YtolgkhjkdadhiaaGreat
namespace Go.Proofs.YtolgkhjkdadhiaaGreat
open Go.Rt Go.RowKit
theorem body_both (o : Int) (x : Str) (acc : List api_Msg) (hs : x.length ≤ 1000000) (ha : acc.length ≤ 1000000) : cF_ o (x, acc) = bR_ o (x, acc) := by
 by_cases h4 : x.length < 4
 ·have hd : decide ((x.length : Int) ≥ 4) = false := by simp; omega
  have a1 : cF_ o (x, acc) = some (.done (.fall (x, acc))) := by unfold cF_; exact ab_ hd rfl
  have a2 : bR_ o (x, acc) = some (.done (.fall (x, acc))) := by unfold bR_; exact ab_ hd rfl
  rw [a1, a2]
 ·have hd : decide ((x.length : Int) ≥ 4) = true := by simp; omega
  have e1 := oct0 x (by omega) hs
  have hlt := four_lt x
  have e2 := r02_at x 0 4 (by omega) (by omega) (by omega) (by omega)
  rw [if_neg (by omega), if_neg (by omega), Nat.zero_add] at e2
  obtain ⟨⟨m, n, e⟩, g1, g2, _⟩ := get_both x 0 hs
  unfold cF_ bR_
  refine (ac_ hd (aa_ e2 rfl)).trans (ac_ hd (aa_ e1 ?_)).symm
  refine Eq.symm ?_
  generalize leV (win x 0 4) = z at *
  show (bif decide ((z : Int) > o) || decide ((z : Int) < 7) then _ else _) = (bif ((false || decide ((z : Int) > o)) || decide ((z : Int) < 7)) then _ else _)
  rw [Bool.false_or]
  cases h7 : decide ((z : Int) > o) || decide ((z : Int) < 7) with
  | true => rfl
  | false =>
   show (bif decide ((z : Int) > (x.length : Int)) then _ else _) = (bif decide ((x.length : Int) < (z : Int)) then _ else _)
   cases hz : decide ((x.length : Int) < (z : Int)) with
   | true => rfl
   | false =>
    show Option.bind (ej_ x 0) _ = Option.bind (bS_ x 0) _
    rw [g1, g2]
    show (bif e != 0 then _ else _) = (bif e != 0 then _ else _)
    cases e != 0 with
    | true => rfl
    | false =>
     show Option.bind (bF_ 424 acc [m]) _ = Option.bind (bO_ x n (x.length : Int)) _
     rw [bm_ (by simp; omega) (by simp; omega)]
     cases bO_ x n (x.length : Int) <;> rfl
theorem nC_ (o : Int) (k : Nat) : ∀ (fuel : Nat) (x : Str) (acc : List api_Msg), x.length < k → x.length ≤ 1000000 → acc.length + x.length ≤ 1000000 → an_ (cF_ o) fuel (x, acc) = an_ (bR_ o) fuel (x, acc) := by
 induction k with
 | zero => intro fuel x acc h; omega
 | succ k ih =>
  intro fuel x acc h hs ha
  cases fuel with
  | zero => rfl
  | succ fuel =>
   have hb := hG_ o x acc hs (by omega)
   have hr := (body_both o x acc hs (by omega)).trans hb
   cases h1 : one o x with
   | stop => rw [h1] at hb hr; rw [ar_ hb, ar_ hr]
   | bad e => rw [h1] at hb hr; rw [ar_ hb, ar_ hr]
   | got m z =>
    rw [h1] at hb hr
    obtain ⟨a, b, _⟩ := jE_ hs h1
    rw [ay_ hb rfl, ay_ hr rfl]
    exact ih fuel _ _ (by simp; omega) (by simp; omega) (by simp; omega)
theorem hH_ (x : Str) (n : Int) (hs : x.length ≤ 1000000) : fs_ x n = bw_ x n := by
 unfold fs_ bw_
 cases hc : ((n == 0) || (decide (n > 8192))) with
 | true =>
  show Option.bind (an_ (cF_ 8192) BIG (x, [])) _ = Option.bind (an_ (bR_ 8192) BIG (x, [])) _
  rw [nC_ 8192 (x.length + 1) BIG x [] (by omega) hs (by simpa using hs)]
 | false =>
  show Option.bind (an_ (cF_ n) BIG (x, [])) _ = Option.bind (an_ (bR_ n) BIG (x, [])) _
  rw [nC_ n (x.length + 1) BIG x [] (by omega) hs (by simpa using hs)]
end Go.Proofs.YtolgkhjkdadhiaaGreat
namespace Go.Proofs.YtolgkhjkdadhiaaGreat
open Go.Rt Go.RowKit
theorem lY_ (m : api_Msg) (h : m.ok) : ∃ y, dx_ m = some y ∧ dp_ m = some y := by
 have hB : BIG = 18446744073709551616 := rfl
 obtain ⟨c, hc⟩ := hF_ m h.small
 have hr : ch_ m = some c := (lV_ m h).trans hc
 by_cases hc0 : c = 0
 ·subst hc0
  obtain ⟨l, nm, e1, hn, e2, hl, hm, hw, ⟨u1, k1⟩, ⟨u2, k2⟩, hk, hg⟩ := pC_ m h hc
  obtain ⟨l', nm', e1', hn', hl', e2', _, eF, _, _⟩ := mK_ m (ju_ e1 (by simpa using hn)) h
  obtain rfl : l' = l := j5_ (Option.some.inj (e2'.symm.trans e2))
  obtain ⟨u3, k3⟩ := encA_ex hw
  have he : app2 (bc_ m.Kind_ 1) (app2 (bc_ m.Tag_ 2) (encA l' m)) = some (u1 ++ (u2 ++ u3)) := by rw [k1, k2, k3]; rfl
  have a1 := gX_ k1
  have a2 := gX_ k2
  have a3 := j6_ 17179869184 (fun k t h => encF_len k m h) k3
  have a4 : 17179869184 * l'.length ≤ 17179869184 * 100 := Nat.mul_le_mul_left _ hl
  have ht : (u1 ++ (u2 ++ u3)).length ≤ 1152921504606846976 := by
   simp only [List.length_append]
   omega
  have hp := put_fwd m l' _ hc e2 hl he ht
  refine ⟨_, hp, ?_⟩
  have v1 := ew_ (w := []) (k := 1) (by omega) (by omega) k1 (by omega) (by simp; omega)
  have v2 := ew_ (w := [] ++ u1) (k := 2) (by omega) (by omega) k2 (by omega) (by simp; omega)
  have v3 := vput_loop m l' hl true l'.length BIG 0 ([] ++ u1 ++ u2) u3 (by omega) (by omega) k3 (fun k hk => (hw k hk).2) (by simp; omega)
  simp only [List.nil_append, List.append_assoc] at v1 v2 v3
  unfold dp_
  generalize hT : u1 ++ (u2 ++ u3) = T at v3 ht ⊢
  refine aa_ hr (ab_ rfl (aa_ eF (aa_ v1 (aa_ v2 (aa_ v3 (ab_ rfl ?_))))))
  have el : w64 ((T.length : Int) + 4) = ((T.length + 4 : Nat) : Int) := by rw [am_ ⟨by omega, by omega⟩]; omega
  simp only [el]
  by_cases c : T.length + 4 ≤ 8192
  ·rw [if_pos c]
   exact ab_ (by simp; omega) (aa_ (v02 (T.length + 4) 4 (by omega) (by omega) (by omega) (by omega)) (aa_ (c4_ (by rw [ap_]; omega)) rfl))
  ·rw [if_neg c]
   exact ac_ (by simp; omega) rfl
 ·refine ⟨([], c), ?_, ?_⟩
  ·unfold dx_
   exact aa_ hc (ac_ (by simpa using hc0) rfl)
  ·unfold dp_
   exact aa_ hr (ac_ (by simpa using hc0) rfl)
end Go.Proofs.YtolgkhjkdadhiaaGreat
namespace Go.Proofs.YtolgkhjkdadhiaaGreat
open Go.Rt Go.RowKit
def ex_ {α β : Type} (g : Nat → α → Option β) : Nat → List α → Option β
 | _, [] => none
 | i, x :: l => match g i x with
  | some r => some r
  | none => ex_ g (i + 1) l
def outO {β : Type} : Option β → Out Unit β
 | some r => .ret r
 | none => .fall ()
theorem lt_t {i n : Nat} (h : i < n) : decide ((i : Int) < (n : Int)) = true := by simpa using h
theorem lt_f (n : Nat) : decide ((n : Int) < (n : Int)) = false := by simp
theorem cx_ {i : Nat} (h : i < 9223372036854775807) : w64 ((i : Int) + 1) = ((i + 1 : Nat) : Int) := by
 rw [am_ ⟨by omega, by omega⟩]; rfl
theorem w_pred {i : Nat} (h0 : 0 < i) (h : i < 9223372036854775807) : w64 ((i : Int) - 1) = ((i - 1 : Nat) : Int) := by
 rw [am_ ⟨by omega, by omega⟩]; omega
def stepO {β : Type} (o : Option β) (i : Nat) : Step Int (Out Unit β) := match o with
 | some r => .done (.ret r)
 | none => .next ((i + 1 : Nat) : Int)
theorem em_ {α β : Type} {body : Int → Option (Step Int (Out Unit β))} (xs : List α) (g : Nat → α → Option β) (hn : xs.length < BIG)
  (hb : ∀ i (h : i < xs.length), body (i : Int) = some (stepO (g i xs[i]) i))
  (he : body (xs.length : Int) = some (.done (.fall ()))) : an_ body BIG 0 = some (outO (ex_ g 0 xs)) := by
 refine ia_ (J := fun i s b => s = (i : Int) ∧ b = outO (ex_ g i (xs.drop i))) xs.length hn (fun s b hJ => ?_) (fun i s b hi hJ => ?_) (by simp)
 ·obtain ⟨rfl, rfl⟩ := hJ
  rw [he]; simp [ex_, outO]
 ·obtain ⟨rfl, rfl⟩ := hJ
  rw [hb i hi, List.drop_eq_getElem_cons hi]
  simp only [ex_]
  cases hg : g i xs[i] with
  | some r => exact .inl rfl
  | none => exact .inr ⟨_, rfl, rfl, rfl⟩
theorem n4_ {β : Type} {L : Option (Out Unit β)} {k : Out Unit β → Option β} {o : Option β} {x : β} (h : L = some (outO o)) (h1 : ∀ r, k (.ret r) = some r) (h2 : k (.fall ()) = some x) : Option.bind L k = some (o.getD x) := by
 subst h
 cases o with
 | some r => exact h1 r
 | none => exact h2
theorem scan_find {α β : Type} (p : α → Bool) (f : α → β) : ∀ (k : Nat) (l : List α), ex_ (fun _ x => if p x then some (f x) else none) k l = (l.find? p).map f
 | _, [] => rfl
 | k, x :: l => by
  simp only [ex_, List.find?_cons]
  cases p x with
  | true => rfl
  | false => exact scan_find p f (k + 1) l
theorem scan_idx {α : Type} (p : α → Bool) : ∀ (k : Nat) (l : List α), ex_ (fun i x => if p x then some ((i : Nat) : Int) else none) k l = (l.findIdx? p).map fun i => ((k + i : Nat) : Int)
 | _, [] => rfl
 | k, x :: l => by
  simp only [ex_, List.findIdx?_cons]
  cases p x with
  | true => rfl
  | false =>
   simp only [Bool.false_eq_true, if_false]
   rw [scan_idx p (k + 1) l]
   cases l.findIdx? p with
   | none => rfl
   | some i => simp only [Option.map_some]; congr 2; omega
theorem scan_none {α β : Type} {g : Nat → α → Option β} : ∀ {k : Nat} {l : List α}, ex_ g k l = none ↔ ∀ i x, l[i]? = some x → g (k + i) x = none
 | _, [] => ⟨fun _ i x h => by simp at h, fun _ => rfl⟩
 | k, x :: l => by
  simp only [ex_]
  constructor
  ·intro h
   split at h
   ·cases h
   ·rename_i h0
    intro i y hy
    cases i with
    | zero => simp at hy; subst hy; exact h0
    | succ i => have := (scan_none (k := k + 1)).1 h i y (by simpa using hy); rwa [show k + 1 + i = k + (i + 1) by omega] at this
  ·intro h
   have h0 := h 0 x rfl
   rw [Nat.add_zero] at h0
   rw [h0]
   exact scan_none.2 fun i y hy => by rw [show k + 1 + i = k + (i + 1) by omega]; exact h (i + 1) y (by simpa using hy)
def foldN {α σ : Type} (f : σ → Nat → α → σ) : σ → Nat → List α → σ
 | s, _, [] => s
 | s, i, x :: l => foldN f (f s i x) (i + 1) l
theorem loop_foldN {α σ τ β : Type} {body : τ → Option (Step τ β)} (xs : List α) (f : σ → Nat → α → σ) (mk : Nat → σ → τ) (Inv : Nat → σ → Prop) (fin : σ → β) (s0 : σ) (hn : xs.length < BIG) (h0 : Inv 0 s0)
  (hb : ∀ i s (h : i < xs.length), Inv i s → body (mk i s) = some (.next (mk (i + 1) (f s i xs[i]))) ∧ Inv (i + 1) (f s i xs[i]))
  (he : ∀ s, Inv xs.length s → body (mk xs.length s) = some (.done (fin s))) : an_ body BIG (mk 0 s0) = some (fin (foldN f s0 0 xs)) := by
 refine ia_ (J := fun i t b => ∃ s, Inv i s ∧ t = mk i s ∧ b = fin (foldN f s i (xs.drop i))) xs.length hn (fun t b hJ => ?_) (fun i t b hi hJ => ?_) ⟨s0, h0, rfl, by simp⟩
 ·obtain ⟨s, hI, rfl, rfl⟩ := hJ
  rw [he s hI]; simp [foldN]
 ·obtain ⟨s, hI, rfl, rfl⟩ := hJ
  obtain ⟨h1, h2⟩ := hb i s hi hI
  rw [List.drop_eq_getElem_cons hi]
  exact .inr ⟨_, h1, _, h2, rfl, rfl⟩
def at_ {α : Type} (p : α → Bool) (l : List α) : Int := match l.findIdx? p with
 | some i => (i : Int)
 | none => -1
theorem at_getD {α : Type} (p : α → Bool) (l : List α) : (ex_ (fun i x => if p x then some ((i : Nat) : Int) else none) 0 l).getD (-1) = at_ p l := by
 rw [scan_idx]; unfold at_; cases l.findIdx? p <;> simp
theorem ne_ {α : Type} (p : α → Bool) (l : List α) : (l.find? p = none ∧ at_ p l = -1) ∨ ∃ (i : Nat) (x : α), l.find? p = some x ∧ at_ p l = (i : Int) ∧ l[i]? = some x ∧ p x = true ∧ ∀ j y, j < i → l[j]? = some y → p y = false := by
 unfold at_
 cases h : l.findIdx? p with
 | none =>
  refine .inl ⟨?_, rfl⟩
  rw [List.find?_eq_none]
  intro x hx
  rw [List.findIdx?_eq_none_iff] at h
  simpa using h x hx
 | some i =>
  obtain ⟨hlt, hp, hall⟩ := List.findIdx?_eq_some_iff_getElem.1 h
  refine .inr ⟨i, l[i], ?_, rfl, List.getElem?_eq_getElem hlt, hp, fun j y hj hy => ?_⟩
  ·rw [List.find?_eq_some_iff_getElem]
   exact ⟨hp, i, hlt, rfl, fun j hj => by simpa using hall j hj⟩
  ·have := hall j hj
   rw [List.getElem?_eq_getElem (by omega)] at hy
   obtain rfl := Option.some.inj hy
   simpa using this
theorem at_neg {α : Type} (p : α → Bool) (l : List α) : decide (at_ p l < 0) = (l.find? p).isNone := by
 rcases ne_ p l with ⟨h1, h2⟩ | ⟨i, x, h1, h2, _⟩
 ·rw [h1, h2]; rfl
 ·rw [h1, h2]; simp
theorem at_get {α : Type} (p : α → Bool) (l : List α) (h : (l.find? p).isNone = false) : au_ l (at_ p l) = l.find? p := by
 rcases ne_ p l with ⟨h1, h2⟩ | ⟨i, x, h1, h2, h3, _⟩
 ·rw [h1] at h; cases h
 ·rw [h1, h2, dz_, h3]
theorem nilB_same {α R : Type} {xs : List α} {k : Bool → Option R} {r : Option R} (h0 : xs = [] → k true = r) (h1 : k false = r) : nilB xs k = r := by
 cases xs with
 | nil => simp only [nilB, h0 rfl, h1]; exact kf_ r
 | cons x l => exact h1
theorem mN_ {α : Type} {n : Nat} {xs : List α} (h : xs.length * n ≤ 140737488355328) (h63 : xs.length ≤ 9223372036854775807) : (nilB xs fun c => bif c then some [] else Option.bind (bF_ n ([] : List α) xs) fun y => some y) = some xs := by
 refine nilB_same (fun e => by subst e; rfl) ?_
 rw [cond_false, bm_ (by simpa using h63) (by simpa using h)]
 rfl
end Go.Proofs.YtolgkhjkdadhiaaGreat
namespace Go.Proofs.YtolgkhjkdadhiaaGreat
open Go.Rt Go.RowKit
def Sz (m : api_Msg) : Prop := m.Names_.length ≤ 1000000 ∧ m.Qids_.length ≤ 1000000
theorem mO_ {m : api_Msg} (h : Sz m) : iH_ m = some m := by
 have h1 : dH_ m.Names_ = some m.Names_ := mN_ (n := 16) (by have := h.1; omega) (by have := h.1; omega)
 have h2 : dI_ m.Qids_ = some m.Qids_ := mN_ (n := 24) (by have := h.2; omega) (by have := h.2; omega)
 unfold iH_
 exact aa_ h1 (aa_ h2 rfl)
theorem fold_map {α β : Type} (f : α → β) : ∀ (l : List α) (s : List β) (k : Nat), foldN (fun s _ x => s ++ [f x]) s k l = s ++ l.map f
 | [], s, _ => by simp [foldN]
 | x :: l, s, k => by simp only [foldN]; rw [fold_map f l]; simp
theorem n5_ {α β : Type} {body : Int × List β → Option (Step (Int × List β) (List β))} (xs : List α) (f : α → β) (hn : xs.length ≤ 1000000)
  (hb : ∀ i (s : List β) (h : i < xs.length), s.length = i → body ((i : Int), s) = some (.next (((i + 1 : Nat) : Int), s ++ [f xs[i]])))
  (he : ∀ s, body ((xs.length : Int), s) = some (.done s)) : an_ body BIG (0, []) = some (xs.map f) := by
 have hB : BIG = 18446744073709551616 := rfl
 have := loop_foldN (body := body) xs (fun s _ x => s ++ [f x]) (fun i s => ((i : Int), s)) (fun i s => s.length = i) (fun s => s) [] (by omega) rfl
  (fun i s h hi => ⟨hb i s h hi, by simp [hi]⟩) (fun s _ => he s)
 rw [fold_map] at this
 exact this
structure SzC (c : api_Client) : Prop where
 calls : c.Calls_.length ≤ 1000
 fids : c.Fids_.length ≤ 1000
 each : ∀ x ∈ c.Calls_, Sz x.Req_
theorem own_eq {c : api_Client} (h : SzC c) : h3_ c = some c := by
 unfold h3_
 have h1 := h.calls
 have h2 : fy_ c.Fids_ = some c.Fids_ := mN_ (n := 8) (by have := h.fids; omega) (by have := h.fids; omega)
 refine aa_ (makeI_eq (by omega) (by omega) (by omega)) (aa_ (a := c.Calls_) ?_ (aa_ h2 rfl))
 have := n5_ (body := jk_ c) c.Calls_ id (by omega) (fun i s hi hs => ?_) (fun s => ?_)
 ·rwa [List.map_id] at this
 ·unfold jk_
  refine ac_ (by simp; omega) (aa_ (az_ hi) (aa_ (mO_ (h.each _ (List.getElem_mem hi))) (aa_ (bm_ (by simp; omega) (by simp; omega)) ?_)))
  rw [cx_ (by omega)]; rfl
 ·unfold jk_
  exact ab_ (by simp) rfl
theorem j7_ {l : List api_Call} {f : api_Call → Option Bool} (p : api_Call → Bool) (hf : ∀ x, f x = some (p x)) (hl : l.length ≤ 1000000) : bq_ l f = some (at_ p l) := by
 have hB : BIG = 18446744073709551616 := rfl
 unfold bq_
 rw [← at_getD]
 refine n4_ (em_ l _ (by omega) (fun i hi => ?_) ?_) (fun r => rfl) rfl
 ·unfold cl_
  refine ac_ (lt_t hi) (aa_ (az_ hi) (aa_ (hf _) ?_))
  cases p l[i] with
  | true => rfl
  | false => rw [cond_false, cx_ (by omega)]; rfl
 ·unfold cl_
  exact ab_ (lt_f _) rfl
def d0_ (t : Int) (x : api_Call) : Bool := x.Req_.Tag_ == t
def bY_ (l : List api_Call) (t : Int) : Int := at_ (d0_ t) l
def cD_ (t : Int) (x : api_Call) : Bool := x.Req_.Kind_ == 108 && x.Req_.OldTag_ == t
def flu (l : List api_Call) (t : Int) : Int := ((l.find? (cD_ t)).map fun x => x.Req_.Tag_).getD 65535
theorem ih_ {l : List api_Call} (t : Int) (hl : l.length ≤ 1000000) : ee_ l t = some (bY_ l t) := by
 unfold ee_
 exact aa_ (j7_ (d0_ t) (fun x => rfl) hl) rfl
theorem l0_ {l : List api_Call} (t : Int) (hl : l.length ≤ 1000000) : fm_ l t = some (flu l t) := by
 unfold fm_ flu
 refine aa_ (j7_ (cD_ t) (fun x => rfl) hl) ?_
 have h := at_neg (cD_ t) l
 cases hf : l.find? (cD_ t) with
 | none => rw [hf] at h; exact ac_ h rfl
 | some x =>
  rw [hf] at h
  have hg := at_get (cD_ t) l (by rw [hf]; rfl)
  rw [hf] at hg
  exact ab_ h (aa_ hg rfl)
theorem rv_ {l : List api_Call} (hl : l.length ≤ 1000000) : f8_ l = some (l.any fun x => x.Req_.Kind_ == 100) := by
 unfold f8_ cm_
 refine aa_ (a := l.any fun x => x.Req_.Kind_ == 100) (aa_ (j7_ (fun x => x.Req_.Kind_ == 100) (fun x => rfl) hl) ?_) rfl
 rcases ne_ (fun x : api_Call => x.Req_.Kind_ == 100) l with ⟨h1, h2⟩ | ⟨i, x, h1, h2, h3, h4, _⟩
 ·rw [h2]
  have : (l.any fun x => x.Req_.Kind_ == 100) = false := by
   rw [List.any_eq_false]
   exact List.find?_eq_none.1 h1
  rw [this]; rfl
 ·rw [h2]
  have : (l.any fun x => x.Req_.Kind_ == 100) = true := List.any_eq_true.2 ⟨x, List.mem_of_getElem? h3, h4⟩
  rw [this]
  simp
theorem ci_ {l : List api_Call} (t : Int) (hl : l.length ≤ 1000000) : cM_ l t = some (bY_ l t) := by
 have hB : BIG = 18446744073709551616 := rfl
 unfold cM_ bY_
 rw [← at_getD]
 refine n4_ (em_ l _ (by omega) (fun i hi => ?_) ?_) (fun r => rfl) rfl
 ·unfold h7_
  refine ac_ (lt_t hi) (aa_ (az_ hi) ?_)
  show (bif d0_ t l[i] then _ else _) = _
  cases d0_ t l[i] with
  | true => rfl
  | false => rw [cond_false, cx_ (by omega)]; rfl
 ·unfold h7_
  exact ab_ (lt_f _) rfl
theorem gu_ {l : List api_Call} (t : Int) (hl : l.length ≤ 1000000) : fr_ l t = some (flu l t) := by
 have hB : BIG = 18446744073709551616 := rfl
 unfold fr_ flu
 rw [← scan_find _ _ 0]
 refine n4_ (em_ l _ (by omega) (fun i hi => ?_) ?_) (fun r => rfl) rfl
 ·unfold h8_
  refine ac_ (lt_t hi) (aa_ (az_ hi) (aa_ (a := cD_ t l[i]) ?_ ?_))
  ·unfold cD_
   cases l[i].Req_.Kind_ == 108 with
   | true => exact ac_ rfl (aa_ (az_ hi) (by simp))
   | false => rfl
  ·cases cD_ t l[i] with
   | true => exact ac_ rfl (aa_ (az_ hi) rfl)
   | false => rw [cond_false, cx_ (by omega)]; rfl
 ·unfold h8_
  exact ab_ (lt_f _) rfl
def cE_ (k : Int) : Bool := (k.tmod 2 == 0) && match br_ k with
 | some t => !(t == [])
 | none => false
theorem cS_ (k : Int) : es_ k = some (cE_ k) := by
 obtain ⟨t, ht⟩ := Option.get_some (eR_ k)
 unfold es_ cE_
 rw [ht]
 cases h : k.tmod 2 == 0 with
 | false => rfl
 | true => exact aa_ (a := !(t == [])) rfl (by simp)
theorem refname_eq (k : Int) : eh_ k = br_ k := by
 by_cases h : lc_ k
 ·exact pB_ k h
 ·rw [nB_ k h, name_out k h]
theorem cX_ (k : Int) : cV_ k = some (cE_ k) := by
 obtain ⟨t, ht⟩ := Option.get_some (eR_ k)
 unfold cV_ cE_
 rw [refname_eq, ht]
 refine aa_ rfl ?_
 rw [Bool.and_comm]
theorem answers_eq (x m : api_Msg) : ∃ b, cg_ x m = some b ∧ fh_ x m = some b := by
 have h : fh_ x m = cg_ x m := by
  unfold fh_ cg_ nv_ ha_
  rw [cX_, cS_]
 have h2 : (cg_ x m).isSome = true := by
  unfold cg_ ha_
  rw [cS_]
  refine cW_ rfl fun a _ => co_ (fun _ => rfl) fun _ => co_ (fun _ => rfl) fun _ => ?_
  refine cW_ ?_ fun b _ => co_ (fun _ => rfl) fun _ => co_ (fun _ => rfl) fun _ => co_ (fun _ => rfl) fun _ => co_ (fun _ => rfl) fun _ => rfl
  exact cW_ rfl fun a _ => co_ (fun _ => rfl) fun _ => rfl
 obtain ⟨b, hb⟩ := Option.get_some h2
 exact ⟨b, hb, h.trans hb⟩
def dj_ (x : api_Msg) (e : Int) : api_Msg := api_Msg.mk 107 x.Tag_ 0 0 0 0 0 [] [] [] [] [] (api_Qid.mk 0 0 0) 0 0 0 [] 0 0 [] (api_Dir.mk 0 0 (api_Qid.mk 0 0 0) 0 0 0 0 [] [] [] []) e 0 0 []
theorem nf_ (x : api_Msg) (e : Int) : h4_ x e = some (dj_ x e) := rfl
theorem pH_ (x : api_Msg) (e : Int) : lM_ x e = some (dj_ x e) := rfl
end Go.Proofs.YtolgkhjkdadhiaaGreat
namespace Go.Proofs.YtolgkhjkdadhiaaGreat
open Go.Rt Go.RowKit
def d6_ (m : api_Msg) : Bool := aX_ m == some 0
theorem check_b {m : api_Msg} (h : m.ok) : ∃ c, aX_ m = some c ∧ ch_ m = some c ∧ (c != 0) = !d6_ m := by
 obtain ⟨c, hc⟩ := hF_ m h.small
 refine ⟨c, hc, (lV_ m h).trans hc, ?_⟩
 unfold d6_
 rw [hc]
 by_cases h0 : c = 0
 ·subst h0; rfl
 ·have h1 : (c != 0) = true := by simpa using h0
  have h2 : ((some c : Option Int) == some 0) = false := by simpa using h0
  rw [h1, h2]; rfl
def hJ_ (l : List api_Call) (t : Int) : Bool := match l.find? (d0_ t) with
 | some y => y.Req_.Kind_ != 108
 | none => true
def jx_ (l : List api_Call) (x : api_Call) : Bool :=
 bif x.Req_.Kind_ == 100 then (decide (l.length = 1) && x.Flush_ == 65535)
 else bif x.Req_.Kind_ == 108 then (((decide (x.Req_.Tag_ ≥ 1) && flu l x.Req_.OldTag_ == x.Req_.Tag_) && x.Flush_ == 65535) && hJ_ l x.Req_.OldTag_)
 else (decide (x.Req_.Tag_ ≥ 1) && x.Flush_ == flu l x.Req_.Tag_)
def eN_ (l : List api_Call) (i : Nat) (x : api_Call) : Bool := ((cE_ x.Req_.Kind_ && d6_ x.Req_) && bY_ l x.Req_.Tag_ == (i : Int)) && jx_ l x
theorem fa_ (l : List api_Call) (t : Int) : (l.find? (d0_ t) = none ∧ bY_ l t = -1) ∨ ∃ (i : Nat) (x : api_Call), l.find? (d0_ t) = some x ∧ bY_ l t = (i : Int) ∧ l[i]? = some x ∧ x.Req_.Tag_ = t := by
 rcases ne_ (d0_ t) l with h | ⟨i, x, h1, h2, h3, h4, _⟩
 ·exact .inl h
 ·exact .inr ⟨i, x, h1, h2, h3, by simpa [d0_] using h4⟩
theorem rightCall_eq {l : List api_Call} {i : Nat} (hi : i < l.length) (hl : l.length ≤ 1000000) (hok : l[i].Req_.ok) : gE_ l (i : Int) = some (eN_ l i l[i]) := by
 unfold gE_
 obtain ⟨c, hc, _, hb⟩ := check_b hok
 refine aa_ (az_ hi) ?_
 have hg := az_ hi
 generalize l[i] = x at *
 refine aa_ (cS_ _) (aa_ (a := !(cE_ x.Req_.Kind_ && d6_ x.Req_)) ?_ (aa_ (a := !((cE_ x.Req_.Kind_ && d6_ x.Req_) && bY_ l x.Req_.Tag_ == (i : Int))) ?_ ?_))
 ·cases cE_ x.Req_.Kind_ with
  | false => rfl
  | true => exact ab_ rfl (aa_ hc (by rw [hb]; rfl))
 ·cases cE_ x.Req_.Kind_ && d6_ x.Req_ with
  | false => rfl
  | true => exact ab_ rfl (aa_ (ih_ _ hl) (by simp [bne]))
 ·unfold eN_
  cases (cE_ x.Req_.Kind_ && d6_ x.Req_) && bY_ l x.Req_.Tag_ == (i : Int) with
  | false => rfl
  | true =>
   refine ab_ rfl ?_
   rw [Bool.true_and]
   unfold jx_
   cases x.Req_.Kind_ == 100 with
   | true =>
    refine ac_ rfl ?_
    have e : ((l.length : Int) == 1) = decide (l.length = 1) := by
     rw [Bool.eq_iff_iff]; simp; omega
    rw [e, cond_true]
    cases decide (l.length = 1) with
    | false => rfl
    | true => exact aa_ (ac_ rfl (aa_ hg rfl)) (by simp)
   | false =>
    refine ab_ rfl ?_
    rw [cond_false]
    cases x.Req_.Kind_ == 108 with
    | true =>
     rw [cond_true, cond_true]
     refine aa_ (ih_ _ hl) (aa_ (a := decide (x.Req_.Tag_ ≥ 1) && flu l x.Req_.OldTag_ == x.Req_.Tag_) ?_ (aa_ (a := (decide (x.Req_.Tag_ ≥ 1) && flu l x.Req_.OldTag_ == x.Req_.Tag_) && x.Flush_ == 65535) ?_ (aa_ ?_ rfl)))
     ·cases decide (x.Req_.Tag_ ≥ 1) with
      | false => rfl
      | true => exact ac_ rfl (aa_ (l0_ _ hl) (by simp))
     ·cases decide (x.Req_.Tag_ ≥ 1) && flu l x.Req_.OldTag_ == x.Req_.Tag_ with
      | false => rfl
      | true => exact ac_ rfl (aa_ hg (by simp))
     ·cases (decide (x.Req_.Tag_ ≥ 1) && flu l x.Req_.OldTag_ == x.Req_.Tag_) && x.Flush_ == 65535 with
      | false => rfl
      | true =>
       refine ac_ rfl (aa_ (a := hJ_ l x.Req_.OldTag_) ?_ (by simp))
       unfold hJ_
       rcases fa_ l x.Req_.OldTag_ with ⟨h1, h2⟩ | ⟨j, y, h1, h2, h3, _⟩
       ·rw [h1, h2]; rfl
       ·rw [h1, h2]
        refine ab_ (by simp) (aa_ (a := y) (by rw [dz_, h3]) rfl)
    | false =>
     rw [cond_false, cond_false]
     refine aa_ (a := decide (x.Req_.Tag_ ≥ 1) && x.Flush_ == flu l x.Req_.Tag_) ?_ rfl
     cases decide (x.Req_.Tag_ ≥ 1) with
     | false => rfl
     | true => exact ac_ rfl (aa_ hg (aa_ (l0_ _ hl) (by simp)))
def noO (b : Bool) : Option Bool := if b then none else some false
def gv_ (l : List api_Call) : Bool := (ex_ (fun i x => noO (eN_ l i x)) 0 l).isNone
theorem g0_ {α : Type} (p : Nat → α → Bool) : ∀ (l : List α) (k : Nat), ex_ (fun i x => noO (p i x)) k l = none ∨ ex_ (fun i x => noO (p i x)) k l = some false
 | [], _ => .inl rfl
 | x :: l, k => by
  simp only [ex_]
  cases p k x with
  | true => exact g0_ p l (k + 1)
  | false => exact .inr rfl
def hK_ (l : List Int) (i : Nat) (n : Int) : Bool := !((decide (n < 0) || decide (n > 4294967294)) || (decide (0 < i) && decide (l.getD (i - 1) 0 ≥ n)))
def fidsB (l : List Int) : Bool := (ex_ (fun i x => noO (hK_ l i x)) 0 l).isNone
theorem calls_loop {c : api_Client} (hl : c.Calls_.length ≤ 1000000) (hok : ∀ x ∈ c.Calls_, x.Req_.ok) : an_ (hq_ c) BIG 0 = some (outO (ex_ (fun i x => noO (eN_ c.Calls_ i x)) 0 c.Calls_)) := by
 have hB : BIG = 18446744073709551616 := rfl
 refine em_ c.Calls_ _ (by omega) (fun i hi => ?_) ?_
 ·unfold hq_
  refine ac_ (lt_t hi) (aa_ (rightCall_eq hi hl (hok _ (List.getElem_mem hi))) ?_)
  cases eN_ c.Calls_ i c.Calls_[i] with
  | true => refine ab_ rfl ?_; rw [cx_ (by omega)]; rfl
  | false => rfl
 ·unfold hq_
  exact ab_ (lt_f _) rfl
theorem getD_prev {l : List Int} {i : Nat} (h0 : 0 < i) (hi : i < l.length) : au_ l (w64 ((i : Int) - 1)) = some (l.getD (i - 1) 0) ∨ ¬ i ≤ 1000000 := by
 by_cases h : i ≤ 1000000
 ·left
  rw [w_pred h0 (by omega), az_ (by omega), List.getD_eq_getElem?_getD, List.getElem?_eq_getElem (by omega)]; rfl
 ·exact .inr h
theorem fids_loop {l : List Int} (hl : l.length ≤ 1000000) : an_ (e0_ l) BIG 0 = some (outO (ex_ (fun i x => noO (hK_ l i x)) 0 l)) := by
 have hB : BIG = 18446744073709551616 := rfl
 refine em_ l _ (by omega) (fun i hi => ?_) ?_
 ·unfold e0_
  refine ac_ (lt_t hi) (aa_ (az_ hi) (aa_ (a := !(hK_ l i l[i])) ?_ ?_))
  ·unfold hK_
   cases decide (l[i] < 0) || decide (l[i] > 4294967294) with
   | true => rfl
   | false =>
    refine ab_ rfl (aa_ (a := decide (0 < i) && decide (l.getD (i - 1) 0 ≥ l[i])) ?_ (by simp))
    have e : decide ((i : Int) > 0) = decide (0 < i) := by rw [Bool.eq_iff_iff]; simp
    rw [e]
    cases h0 : decide (0 < i) with
    | false => rfl
    | true =>
     refine ac_ rfl (aa_ ((getD_prev (by simpa using h0) hi).resolve_right (by omega)) rfl)
  ·cases hK_ l i l[i] with
   | true => refine ab_ rfl ?_; rw [cx_ (by omega)]; rfl
   | false => rfl
 ·unfold e0_
  exact ab_ (lt_f _) rfl
theorem rightFids_eq {l : List Int} (hl : l.length ≤ 1000000) : gD_ l = some (decide (l.length ≤ 256) && fidsB l) := by
 unfold gD_
 have e : decide ((l.length : Int) > 256) = !(decide (l.length ≤ 256)) := by rw [Bool.eq_iff_iff]; simp; omega
 rw [e]
 cases decide (l.length ≤ 256) with
 | false => rfl
 | true =>
  refine ab_ rfl (aa_ (fids_loop hl) ?_)
  unfold fidsB
  rcases g0_ (hK_ l) l 0 with h | h <;> rw [h] <;> rfl
def msB (c : api_Client) : Bool := !((c.Msize_ != 0) && (decide (c.Msize_ < 256) || decide (c.Msize_ > 8192)))
def splB (c : api_Client) : Bool := decide (bw_ c.Partial_ c.Msize_ = some ([], c.Partial_, 0))
def j8_ (c : api_Client) : Bool :=
 ((((msB c && decide (c.Session_.length ≤ 64)) && (decide (c.Fids_.length ≤ 256) && fidsB c.Fids_)) && (decide (c.Calls_.length ≤ 64) && gv_ c.Calls_)) && splB c) && (c.Up_ || (decide (c.Calls_.length = 0) && (c.Partial_ == [])))
theorem pI_ {x : Str} (n : Int) (hs : x.length ≤ 1000000) : ∃ v, bw_ x n = some v := by
 rcases kE_ x n hs with ⟨ms, r, h⟩ | ⟨e, e1, _⟩
 ·exact ⟨_, cH_ hs h⟩
 ·exact ⟨_, e1⟩
theorem splB_eq {c : api_Client} {v : List api_Msg × Str × Int} (h : bw_ c.Partial_ c.Msize_ = some v) : ((decide ((v.1.length : Int) > 0) || (!(v.2.1 == c.Partial_))) || (v.2.2 != 0)) = !(splB c) := by
 unfold splB
 rw [h]
 obtain ⟨a, b, e⟩ := v
 rw [Bool.eq_iff_iff]
 simp only [Bool.or_eq_true, decide_eq_true_eq, Bool.not_eq_true', bne_iff_ne, beq_eq_false_iff_ne, decide_eq_false_iff_not, Option.some.injEq, Prod.mk.injEq, not_and]
 constructor
 ·rintro ((h | h) | h) h1 h2
  ·rw [h1] at h; exact absurd h (by simp)
  ·exact absurd h2 h
  ·exact h
 ·intro h1
  by_cases ha : a = []
  ·by_cases hb : b = c.Partial_
   ·exact .inr (h1 ha hb)
   ·exact .inl (.inr hb)
  ·have := List.length_pos_iff.2 ha
   exact .inl (.inl (by omega))
structure RSz (c : api_Client) : Prop where
 calls : c.Calls_.length ≤ 1000000
 fids : c.Fids_.length ≤ 1000000
 part : c.Partial_.length ≤ 1000000
 ok : ∀ x ∈ c.Calls_, x.Req_.ok
theorem up_eq (c : api_Client) : (c.Up_ || (((c.Calls_.length : Int) == 0) && (c.Partial_ == []))) = (c.Up_ || (decide (c.Calls_.length = 0) && (c.Partial_ == []))) := by
 have e : ((c.Calls_.length : Int) == 0) = decide (c.Calls_.length = 0) := by rw [Bool.eq_iff_iff]; simp
 rw [e]
theorem right_eq {c : api_Client} (h : RSz c) : kt_ c = some (j8_ c) := by
 unfold kt_ j8_
 obtain ⟨v, hv⟩ := pI_ c.Msize_ h.part
 have hs := splB_eq hv
 have e0 : decide ((c.Session_.length : Int) > 64) = !(decide (c.Session_.length ≤ 64)) := by rw [Bool.eq_iff_iff]; simp; omega
 have e1 : decide ((c.Calls_.length : Int) > 64) = !(decide (c.Calls_.length ≤ 64)) := by rw [Bool.eq_iff_iff]; simp; omega
 refine aa_ (a := !((msB c && decide (c.Session_.length ≤ 64)) && (decide (c.Fids_.length ≤ 256) && fidsB c.Fids_))) ?_ ?_
 ·have e2 : (((c.Msize_ != 0) && (decide (c.Msize_ < 256) || decide (c.Msize_ > 8192))) || decide ((c.Session_.length : Int) > 64)) = !(msB c && decide (c.Session_.length ≤ 64)) := by
   rw [e0]; unfold msB; rw [Bool.not_and, Bool.not_not]
  rw [e2]
  cases msB c && decide (c.Session_.length ≤ 64) with
  | false => rfl
  | true => exact ab_ rfl (aa_ (rightFids_eq h.fids) (by simp))
 ·rw [e1]
  cases (msB c && decide (c.Session_.length ≤ 64)) && (decide (c.Fids_.length ≤ 256) && fidsB c.Fids_) with
  | false => rfl
  | true =>
   cases decide (c.Calls_.length ≤ 64) with
   | false => rfl
   | true =>
    refine ab_ rfl (aa_ (calls_loop h.calls h.ok) ?_)
    unfold gv_
    rcases g0_ (eN_ c.Calls_) c.Calls_ 0 with h1 | h1 <;> rw [h1]
    ·refine aa_ hv ?_
     rw [hs, up_eq]
     cases splB c <;> rfl
    ·rfl
theorem rw_ {l : List api_Call} {i : Nat} (hi : i < l.length) (hl : l.length ≤ 1000000) (hok : l[i].Req_.ok) : c3_ l (i : Int) = some (stepO (noO (eN_ l i l[i])) i) := by
 unfold c3_
 obtain ⟨c, _, hc, hb⟩ := check_b hok
 refine ac_ (lt_t hi) (aa_ (az_ hi) ?_)
 have hg := az_ hi
 generalize l[i] = x at *
 have e1 : decide ((l.length : Int) > 1) = !(decide (l.length = 1)) := by rw [Bool.eq_iff_iff]; simp; omega
 have e2 : decide (x.Req_.Tag_ < 1) = !(decide (x.Req_.Tag_ ≥ 1)) := by rw [Bool.eq_iff_iff]; simp
 have hn : (bif false then some (Step.done (.ret false)) else some (.next (w64 ((i : Int) + 1)))) = some (stepO (noO true) i : Step Int (Out Unit Bool)) := by rw [cx_ (by omega)]; rfl
 refine aa_ (cX_ _) (aa_ (a := !(cE_ x.Req_.Kind_ && d6_ x.Req_)) ?_ ?_)
 ·cases cE_ x.Req_.Kind_ with
  | false => rfl
  | true => exact ab_ rfl (aa_ hc (by rw [hb]; rfl))
 ·rw [e1, e2]
  unfold eN_ jx_
  cases cE_ x.Req_.Kind_ && d6_ x.Req_ with
  | false => rfl
  | true =>
   cases hi2 : bY_ l x.Req_.Tag_ == (i : Int) with
   | false =>
    have e3 : (bY_ l x.Req_.Tag_ != (i : Int)) = true := by rw [bne, hi2]; rfl
    refine aa_ (a := true) ?_ rfl
    cases ((!true || (x.Req_.Kind_ != 100) && !(decide (x.Req_.Tag_ ≥ 1))) || (x.Req_.Kind_ == 100) && !(decide (l.length = 1))) with
    | true => rfl
    | false => exact ab_ rfl (aa_ (ci_ _ hl) (congrArg some e3))
   | true =>
    have e3 : (bY_ l x.Req_.Tag_ != (i : Int)) = false := by rw [bne, hi2]; rfl
    refine aa_ (a := ((x.Req_.Kind_ != 100) && !(decide (x.Req_.Tag_ ≥ 1))) || ((x.Req_.Kind_ == 100) && !(decide (l.length = 1)))) ?_ ?_
    ·rw [Bool.not_true, Bool.false_or]
     cases ((x.Req_.Kind_ != 100) && !(decide (x.Req_.Tag_ ≥ 1))) || ((x.Req_.Kind_ == 100) && !(decide (l.length = 1))) with
     | true => rfl
     | false => exact ab_ rfl (aa_ (ci_ _ hl) (congrArg some e3))
    ·rw [bne]
     cases h1 : x.Req_.Kind_ == 100 with
     | true =>
      have hk : x.Req_.Kind_ = 100 := by simpa using h1
      have h108 : (x.Req_.Kind_ == 108) = false := by rw [hk]; rfl
      rw [h108]
      cases decide (l.length = 1) with
      | false => rfl
      | true =>
       refine ab_ rfl (aa_ (ci_ _ hl) (aa_ (a := false) rfl (ab_ rfl (aa_ (gu_ _ hl) (aa_ (a := 65535) rfl (aa_ hg ?_))))))
       rw [bne]
       cases x.Flush_ == 65535 with
       | true => exact hn
       | false => rfl
     | false =>
      cases decide (x.Req_.Tag_ ≥ 1) with
      | false => cases (x.Req_.Kind_ == 108) <;> rfl
      | true =>
       refine ab_ rfl (aa_ (ci_ _ hl) ?_)
       cases h108 : x.Req_.Kind_ == 108 with
       | true =>
        refine aa_ (a := !(flu l x.Req_.OldTag_ == x.Req_.Tag_ && hJ_ l x.Req_.OldTag_)) ?_ ?_
        ·refine ac_ rfl (aa_ (gu_ _ hl) (aa_ ?_ rfl))
         rw [bne]
         cases flu l x.Req_.OldTag_ == x.Req_.Tag_ with
         | false => rfl
         | true =>
          refine ab_ rfl (aa_ (a := !hJ_ l x.Req_.OldTag_) ?_ (by simp))
          unfold hJ_
          rcases fa_ l x.Req_.OldTag_ with ⟨h1, h2⟩ | ⟨j, y, h1, h2, h3, _⟩
          ·rw [h1, h2]; rfl
          ·rw [h1, h2]
           exact ac_ (by simp) (aa_ (a := y) (by rw [dz_, h3]) (by simp [bne]))
        ·cases flu l x.Req_.OldTag_ == x.Req_.Tag_ with
         | false => rfl
         | true =>
          cases hJ_ l x.Req_.OldTag_ with
          | false => cases (x.Flush_ == 65535) <;> rfl
          | true =>
           refine ab_ rfl (aa_ (gu_ _ hl) (aa_ (a := 65535) rfl (aa_ hg ?_)))
           rw [bne]
           cases x.Flush_ == 65535 with
           | true => exact hn
           | false => rfl
       | false =>
        refine aa_ (a := false) rfl (ab_ rfl (aa_ (gu_ _ hl) (aa_ (a := flu l x.Req_.Tag_) rfl (aa_ hg ?_))))
        rw [bne]
        cases x.Flush_ == flu l x.Req_.Tag_ with
        | true => exact hn
        | false => rfl
theorem refcalls_eq {l : List api_Call} (hl : l.length ≤ 1000000) (hok : ∀ x ∈ l, x.Req_.ok) : e2_ l = some (decide (l.length ≤ 64) && gv_ l) := by
 have hB : BIG = 18446744073709551616 := rfl
 have h := em_ (body := c3_ l) l (fun i x => noO (eN_ l i x)) (by omega) (fun i hi => rw_ hi hl (hok _ (List.getElem_mem hi))) (by unfold c3_; exact ab_ (lt_f _) rfl)
 unfold e2_
 refine aa_ h ?_
 have e : decide ((l.length : Int) ≤ 64) = decide (l.length ≤ 64) := by rw [Bool.eq_iff_iff]; simp; omega
 unfold gv_
 rcases g0_ (eN_ l) l 0 with h1 | h1 <;> rw [h1]
 ·show some (decide ((l.length : Int) ≤ 64)) = _
  rw [e]; simp
 ·simp [outO]
theorem reffids_loop {c : api_Client} (hl : c.Fids_.length ≤ 1000000) : an_ (gb_ c) BIG 0 = some (outO (ex_ (fun i x => noO (hK_ c.Fids_ i x)) 0 c.Fids_)) := by
 have hB : BIG = 18446744073709551616 := rfl
 refine em_ c.Fids_ _ (by omega) (fun i hi => ?_) ?_
 ·unfold gb_
  refine ac_ (lt_t hi) (aa_ (az_ hi) (aa_ (a := decide (c.Fids_[i] < 0) || decide (c.Fids_[i] > 4294967294)) ?_ (aa_ (a := !(hK_ c.Fids_ i c.Fids_[i])) ?_ ?_)))
  ·cases decide (c.Fids_[i] < 0) with
   | true => rfl
   | false => exact ab_ rfl (aa_ (az_ hi) (by simp))
  ·unfold hK_
   cases decide (c.Fids_[i] < 0) || decide (c.Fids_[i] > 4294967294) with
   | true => rfl
   | false =>
    refine ab_ rfl (aa_ (a := decide (0 < i) && decide (c.Fids_.getD (i - 1) 0 ≥ c.Fids_[i])) ?_ (by simp))
    have e : decide ((i : Int) > 0) = decide (0 < i) := by rw [Bool.eq_iff_iff]; simp
    rw [e]
    cases h0 : decide (0 < i) with
    | false => rfl
    | true => exact ac_ rfl (aa_ (az_ hi) (aa_ ((getD_prev (by simpa using h0) hi).resolve_right (by omega)) rfl))
  ·cases hK_ c.Fids_ i c.Fids_[i] with
   | true => refine ab_ rfl ?_; rw [cx_ (by omega)]; rfl
   | false => rfl
 ·unfold gb_
  exact ab_ (lt_f _) rfl
theorem refright_eq {c : api_Client} (h : RSz c) : ft_ c = some (j8_ c) := by
 unfold ft_ j8_
 obtain ⟨v, hv⟩ := pI_ c.Msize_ h.part
 have hs := splB_eq hv
 have hv2 := (hH_ c.Partial_ c.Msize_ h.part).trans hv
 have e0 : decide ((c.Session_.length : Int) > 64) = !(decide (c.Session_.length ≤ 64)) := by rw [Bool.eq_iff_iff]; simp; omega
 have e1 : decide ((c.Fids_.length : Int) > 256) = !(decide (c.Fids_.length ≤ 256)) := by rw [Bool.eq_iff_iff]; simp; omega
 refine aa_ (a := !(((msB c && decide (c.Session_.length ≤ 64)) && decide (c.Fids_.length ≤ 256)) && (decide (c.Calls_.length ≤ 64) && gv_ c.Calls_))) ?_ ?_
 ·have e2 : ((((c.Msize_ != 0) && (decide (c.Msize_ < 256) || decide (c.Msize_ > 8192))) || decide ((c.Session_.length : Int) > 64)) || decide ((c.Fids_.length : Int) > 256)) = !((msB c && decide (c.Session_.length ≤ 64)) && decide (c.Fids_.length ≤ 256)) := by
   rw [e0, e1]; unfold msB; rw [Bool.not_and, Bool.not_and, Bool.not_not]
  rw [e2]
  cases (msB c && decide (c.Session_.length ≤ 64)) && decide (c.Fids_.length ≤ 256) with
  | false => rfl
  | true => exact ab_ rfl (aa_ (refcalls_eq h.calls h.ok) (by simp))
 ·cases msB c && decide (c.Session_.length ≤ 64) with
  | false => rfl
  | true =>
   cases decide (c.Fids_.length ≤ 256) with
   | false => rfl
   | true =>
    cases decide (c.Calls_.length ≤ 64) && gv_ c.Calls_ with
    | false => cases fidsB c.Fids_ <;> rfl
    | true =>
     refine ab_ rfl (aa_ (reffids_loop h.fids) ?_)
     unfold fidsB
     rcases g0_ (hK_ c.Fids_) c.Fids_ 0 with h1 | h1 <;> rw [h1]
     ·refine aa_ hv2 ?_
      have hs2 : (((v.2.2 != 0) || decide ((v.1.length : Int) > 0)) || (!(v.2.1 == c.Partial_))) = !(splB c) := by
       rw [← hs, Bool.or_assoc, Bool.or_comm]
      rw [hs2, up_eq]
      cases splB c <;> rfl
     ·rfl
end Go.Proofs.YtolgkhjkdadhiaaGreat
namespace Go.Proofs.YtolgkhjkdadhiaaGreat
open Go.Rt Go.RowKit
structure CV (l : List api_Call) : Prop where
 each : ∀ x ∈ l, cE_ x.Req_.Kind_ = true ∧ d6_ x.Req_ = true
 nd : (l.map fun x => x.Req_.Tag_).Nodup
 tag : ∀ x ∈ l, x.Req_.Kind_ ≠ 100 → 1 ≤ x.Req_.Tag_
 ver : ∀ x ∈ l, x.Req_.Kind_ = 100 → l.length = 1 ∧ x.Flush_ = 65535
 one : ∀ x ∈ l, x.Req_.Kind_ = 108 → ∀ y ∈ l, y.Req_.Kind_ = 108 → y.Req_.OldTag_ = x.Req_.OldTag_ → y.Req_.Tag_ = x.Req_.Tag_
 fl : ∀ x ∈ l, x.Req_.Kind_ = 108 → x.Flush_ = 65535 ∧ ∀ y ∈ l, y.Req_.Tag_ = x.Req_.OldTag_ → y.Req_.Kind_ ≠ 108
 other : ∀ x ∈ l, x.Req_.Kind_ ≠ 100 → x.Req_.Kind_ ≠ 108 → x.Flush_ = flu l x.Req_.Tag_
theorem nd_idx {l : List api_Call} (h : (l.map fun x => x.Req_.Tag_).Nodup) {i j : Nat} {x y : api_Call} (hi : l[i]? = some x) (hj : l[j]? = some y) (e : x.Req_.Tag_ = y.Req_.Tag_) : i = j := by
 obtain ⟨hi1, rfl⟩ := List.getElem?_eq_some_iff.1 hi
 obtain ⟨hj1, rfl⟩ := List.getElem?_eq_some_iff.1 hj
 have hp := List.pairwise_iff_getElem.1 h
 rcases Nat.lt_trichotomy i j with h1 | h1 | h1
 ·exact absurd (by rw [List.getElem_map, List.getElem_map]; exact e) (hp i j (by simpa using hi1) (by simpa using hj1) h1)
 ·exact h1
 ·exact absurd (by rw [List.getElem_map, List.getElem_map]; exact e.symm) (hp j i (by simpa using hj1) (by simpa using hi1) h1)
theorem nd_eq {l : List api_Call} (h : (l.map fun x => x.Req_.Tag_).Nodup) {x y : api_Call} (hx : x ∈ l) (hy : y ∈ l) (e : x.Req_.Tag_ = y.Req_.Tag_) : x = y := by
 obtain ⟨i, hi⟩ := List.mem_iff_getElem?.1 hx
 obtain ⟨j, hj⟩ := List.mem_iff_getElem?.1 hy
 obtain rfl := nd_idx h hi hj e
 exact Option.some.inj (hi.symm.trans hj)
theorem l1_ (l : List api_Call) (t : Int) : ((∀ x ∈ l, cD_ t x = false) ∧ flu l t = 65535) ∨ ∃ x ∈ l, cD_ t x = true ∧ flu l t = x.Req_.Tag_ := by
 unfold flu
 cases h : l.find? (cD_ t) with
 | none => exact .inl ⟨fun x hx => by simpa using List.find?_eq_none.1 h x hx, rfl⟩
 | some x => exact .inr ⟨x, List.mem_of_find?_eq_some h, List.find?_some h, rfl⟩
theorem isFl_iff {t : Int} {x : api_Call} : cD_ t x = true ↔ x.Req_.Kind_ = 108 ∧ x.Req_.OldTag_ = t := by
 unfold cD_; simp
theorem n7_ {l : List api_Call} {t : Int} (h : ∀ x ∈ l, cD_ t x = false) : flu l t = 65535 := by
 rcases l1_ l t with h1 | ⟨x, hx, h1, _⟩
 ·exact h1.2
 ·rw [h x hx] at h1; cases h1
theorem j9_ {l : List api_Call} {t : Int} (ho : ∀ x ∈ l, x.Req_.Kind_ = 108 → ∀ y ∈ l, y.Req_.Kind_ = 108 → y.Req_.OldTag_ = x.Req_.OldTag_ → y.Req_.Tag_ = x.Req_.Tag_) {x : api_Call} (hx : x ∈ l) (h : cD_ t x = true) : flu l t = x.Req_.Tag_ := by
 rcases l1_ l t with h1 | ⟨y, hy, h1, h2⟩
 ·rw [h1.1 x hx] at h; cases h
 ·obtain ⟨a, b⟩ := isFl_iff.1 h
  obtain ⟨c, d⟩ := isFl_iff.1 h1
  rw [h2]
  exact ho x hx a y hy c (d.trans b.symm)
theorem noO_none {b : Bool} : noO b = none ↔ b = true := by cases b <;> simp [noO]
theorem pK_ (l : List api_Call) : gv_ l = true ↔ ∀ i x, l[i]? = some x → eN_ l i x = true := by
 unfold gv_
 rw [Option.isNone_iff_eq_none, scan_none]
 simp only [Nat.zero_add, noO_none]
theorem idx_self {l : List api_Call} (h : (l.map fun x => x.Req_.Tag_).Nodup) {i : Nat} {x : api_Call} (hi : l[i]? = some x) : bY_ l x.Req_.Tag_ = (i : Int) := by
 rcases fa_ l x.Req_.Tag_ with ⟨h1, _⟩ | ⟨j, y, _, h2, h3, h4⟩
 ·exact absurd (by simp [d0_]) (List.find?_eq_none.1 h1 x (List.mem_of_getElem? hi))
 ·rw [h2, nd_idx h h3 hi h4]
theorem CV.calls {l : List api_Call} (h : CV l) : gv_ l = true := by
 rw [pK_]
 intro i x hi
 have hm := List.mem_of_getElem? hi
 obtain ⟨h1, h2⟩ := h.each x hm
 unfold eN_
 rw [h1, h2, idx_self h.nd hi, Bool.true_and, beq_self_eq_true, Bool.true_and]
 unfold jx_
 by_cases k1 : x.Req_.Kind_ = 100
 ·obtain ⟨a, b⟩ := h.ver x hm k1
  rw [k1, a, b]; rfl
 ·have e1 : (x.Req_.Kind_ == 100) = false := by simpa using k1
  have ht := h.tag x hm k1
  rw [e1, cond_false]
  by_cases k2 : x.Req_.Kind_ = 108
  ·obtain ⟨a, b⟩ := h.fl x hm k2
   have e2 : flu l x.Req_.OldTag_ = x.Req_.Tag_ := j9_ h.one hm (isFl_iff.2 ⟨k2, rfl⟩)
   rw [k2, a, e2]
   have e3 : hJ_ l x.Req_.OldTag_ = true := by
    unfold hJ_
    rcases fa_ l x.Req_.OldTag_ with ⟨h1, _⟩ | ⟨j, y, h1, _, h3, h4⟩
    ·rw [h1]
    ·rw [h1]; simpa using b y (List.mem_of_getElem? h3) h4
   rw [e3]
   simp
   omega
  ·have e2 : (x.Req_.Kind_ == 108) = false := by simpa using k2
   rw [e2, cond_false, h.other x hm k1 k2]
   simp
   omega
theorem CV.of_calls {l : List api_Call} (h : gv_ l = true) : CV l := by
 rw [pK_] at h
 have hall : ∀ (i : Nat) (x : api_Call), l[i]? = some x → (cE_ x.Req_.Kind_ = true ∧ d6_ x.Req_ = true) ∧ bY_ l x.Req_.Tag_ = (i : Int) ∧ jx_ l x = true := by
  intro i x hi
  have := h i x hi
  unfold eN_ at this
  simp only [Bool.and_eq_true, beq_iff_eq] at this
  exact ⟨this.1.1, this.1.2, this.2⟩
 have hmem : ∀ x ∈ l, (cE_ x.Req_.Kind_ = true ∧ d6_ x.Req_ = true) ∧ jx_ l x = true := by
  intro x hx
  obtain ⟨i, hi⟩ := List.mem_iff_getElem?.1 hx
  exact ⟨(hall i x hi).1, (hall i x hi).2.2⟩
 have hnd : (l.map fun x => x.Req_.Tag_).Nodup := by
  refine List.pairwise_iff_getElem.2 fun i j hi hj hij e => ?_
  simp only [List.length_map] at hi hj
  simp only [List.getElem_map] at e
  have h1 := (hall i _ (List.getElem?_eq_getElem hi)).2.1
  have h2 := (hall j _ (List.getElem?_eq_getElem hj)).2.1
  rw [e, h2] at h1
  omega
 have hk : ∀ x ∈ l, x.Req_.Kind_ = 108 → 1 ≤ x.Req_.Tag_ ∧ flu l x.Req_.OldTag_ = x.Req_.Tag_ ∧ x.Flush_ = 65535 ∧ hJ_ l x.Req_.OldTag_ = true := by
  intro x hx k
  have := (hmem x hx).2
  unfold jx_ at this
  rw [k] at this
  simp only [show ((108 : Int) == 100) = false from rfl, cond_false, show ((108 : Int) == 108) = true from rfl, cond_true, Bool.and_eq_true, decide_eq_true_eq, beq_iff_eq] at this
  exact ⟨this.1.1.1, this.1.1.2, this.1.2, this.2⟩
 have ho : ∀ x ∈ l, x.Req_.Kind_ ≠ 100 → x.Req_.Kind_ ≠ 108 → 1 ≤ x.Req_.Tag_ ∧ x.Flush_ = flu l x.Req_.Tag_ := by
  intro x hx k1 k2
  have := (hmem x hx).2
  unfold jx_ at this
  rw [show (x.Req_.Kind_ == 100) = false by simpa using k1, show (x.Req_.Kind_ == 108) = false by simpa using k2] at this
  simp only [cond_false, Bool.and_eq_true, decide_eq_true_eq, beq_iff_eq] at this
  exact this
 refine ⟨fun x hx => (hmem x hx).1, hnd, fun x hx k1 => ?_, fun x hx k => ?_, fun x hx kx y hy ky e => ?_, fun x hx k => ⟨(hk x hx k).2.2.1, fun y hy e => ?_⟩, fun x hx k1 k2 => (ho x hx k1 k2).2⟩
 ·by_cases k2 : x.Req_.Kind_ = 108
  ·exact (hk x hx k2).1
  ·exact (ho x hx k1 k2).1
 ·have := (hmem x hx).2
  unfold jx_ at this
  rw [k] at this
  simp only [show ((100 : Int) == 100) = true from rfl, cond_true, Bool.and_eq_true, decide_eq_true_eq, beq_iff_eq] at this
  exact this
 ·have h1 := (hk x hx kx).2.1
  have h2 := (hk y hy ky).2.1
  rw [e, h1] at h2
  exact h2.symm
 ·have h4 := (hk x hx k).2.2.2
  rcases fa_ l x.Req_.OldTag_ with ⟨h1, _⟩ | ⟨j, z, h1, _, h3, h5⟩
  ·exact absurd (by simpa [d0_] using e) (List.find?_eq_none.1 h1 y hy)
  ·unfold hJ_ at h4
   rw [h1] at h4
   obtain rfl := nd_eq hnd hy (List.mem_of_getElem? h3) (e.trans h5.symm)
   simpa using h4
theorem CV.nil : CV [] := ⟨(fun _ h => nomatch h), List.nodup_nil, (fun _ h => nomatch h), (fun _ h => nomatch h), (fun _ h => nomatch h), (fun _ h => nomatch h), (fun _ h => nomatch h)⟩
theorem CV.sub {l l' : List api_Call} (h : CV l) (hs : l'.Sublist l) (hf : ∀ x ∈ l', x.Req_.Kind_ ≠ 100 → x.Req_.Kind_ ≠ 108 → flu l' x.Req_.Tag_ = flu l x.Req_.Tag_) : CV l' := by
 have hm : ∀ x ∈ l', x ∈ l := fun x hx => hs.subset hx
 refine ⟨fun x hx => h.each x (hm x hx), h.nd.sublist (hs.map _), fun x hx => h.tag x (hm x hx), fun x hx k => ?_, fun x hx kx y hy => h.one x (hm x hx) kx y (hm y hy), fun x hx k => ⟨(h.fl x (hm x hx) k).1, fun y hy => (h.fl x (hm x hx) k).2 y (hm y hy)⟩, fun x hx k1 k2 => (h.other x (hm x hx) k1 k2).trans (hf x hx k1 k2).symm⟩
 obtain ⟨a, b⟩ := h.ver x (hm x hx) k
 have := hs.length_le
 have h2 := List.length_pos_of_mem hx
 exact ⟨by omega, b⟩
theorem ng_ {l l' : List api_Call} (h : CV l) (hs : l'.Sublist l) {t : Int} (hx : ∀ x ∈ l, cD_ t x = true → x ∈ l') : flu l' t = flu l t := by
 have ho : ∀ x ∈ l', x.Req_.Kind_ = 108 → ∀ y ∈ l', y.Req_.Kind_ = 108 → y.Req_.OldTag_ = x.Req_.OldTag_ → y.Req_.Tag_ = x.Req_.Tag_ := fun x hx kx y hy => h.one x (hs.subset hx) kx y (hs.subset hy)
 rcases l1_ l t with ⟨h1, h2⟩ | ⟨x, h1, h2, h3⟩
 ·rw [h2]; exact n7_ fun y hy => h1 y (hs.subset hy)
 ·rw [h3]; exact j9_ ho (hx x h1 h2) h2
theorem cY_ {l : List api_Call} (h : (l.map fun x => x.Req_.Tag_).Nodup) {i : Nat} {x : api_Call} (hi : l[i]? = some x) {y : api_Call} : y ∈ l.eraseIdx i ↔ y ∈ l ∧ y ≠ x := by
 rw [List.mem_eraseIdx_iff_getElem?]
 constructor
 ·rintro ⟨j, hj, hy⟩
  refine ⟨List.mem_of_getElem? hy, fun e => ?_⟩
  subst e
  exact hj (nd_idx h hy hi rfl)
 ·rintro ⟨hy, hne⟩
  obtain ⟨j, hj⟩ := List.mem_iff_getElem?.1 hy
  exact ⟨j, fun e => hne (by subst e; exact Option.some.inj (hj.symm.trans hi)), hj⟩
theorem CV.drop {l : List api_Call} (h : CV l) {i : Nat} {x : api_Call} (hi : l[i]? = some x) (hk : x.Req_.Kind_ ≠ 108) : CV (l.eraseIdx i) := by
 have hs := List.eraseIdx_sublist l i
 refine h.sub hs fun z _ _ _ => ng_ h hs fun y hy e => (cY_ h.nd hi).2 ⟨hy, fun e2 => hk (by rw [← e2]; exact (isFl_iff.1 e).1)⟩
theorem CV.dropF {l : List api_Call} (h : CV l) {i : Nat} {x : api_Call} (hi : l[i]? = some x) (hn : ∀ z ∈ l.eraseIdx i, z.Req_.Tag_ ≠ x.Req_.OldTag_) : CV (l.eraseIdx i) := by
 have hs := List.eraseIdx_sublist l i
 refine h.sub hs fun z hz _ _ => ng_ h hs fun y hy e => (cY_ h.nd hi).2 ⟨hy, fun e2 => hn z hz ?_⟩
 rw [← e2]; exact (isFl_iff.1 e).2.symm
theorem CV.drop2 {l : List api_Call} (h : CV l) {i k : Nat} {x z : api_Call} (hi : l[i]? = some x) (hkx : x.Req_.Kind_ = 108) (hk : (l.eraseIdx i)[k]? = some z) (ht : z.Req_.Tag_ = x.Req_.OldTag_) : CV ((l.eraseIdx i).eraseIdx k) := by
 have hs1 := List.eraseIdx_sublist l i
 have hnd1 : ((l.eraseIdx i).map fun x => x.Req_.Tag_).Nodup := h.nd.sublist (hs1.map _)
 have hs := (List.eraseIdx_sublist (l.eraseIdx i) k).trans hs1
 have hz := (cY_ h.nd hi).1 (List.mem_of_getElem? hk)
 have hzk : z.Req_.Kind_ ≠ 108 := (h.fl x (List.mem_of_getElem? hi) hkx).2 z hz.1 ht
 refine h.sub hs fun y hy _ _ => ng_ h hs fun w hw e => (cY_ hnd1 hk).2 ⟨(cY_ h.nd hi).2 ⟨hw, fun e2 => ?_⟩, fun e2 => hzk (by rw [← e2]; exact (isFl_iff.1 e).1)⟩
 obtain ⟨hy1, hy2⟩ := (cY_ hnd1 hk).1 hy
 refine hy2 (nd_eq hnd1 hy1 (List.mem_of_getElem? hk) ?_)
 rw [ht, ← e2]; exact (isFl_iff.1 e).2.symm
theorem nh_ {l : List api_Call} (h : (l.map fun x => x.Req_.Tag_).Nodup) {k : Nat} {z z' : api_Call} (hk : l[k]? = some z) {y : api_Call} (hy : y ∈ l.set k z') : y = z' ∨ (y ∈ l ∧ y ≠ z) := by
 obtain ⟨j, hj⟩ := List.mem_iff_getElem?.1 hy
 rw [List.getElem?_set] at hj
 split at hj
 ·split at hj
  ·exact .inl (Option.some.inj hj).symm
  ·cases hj
 ·rename_i hne
  refine .inr ⟨List.mem_of_getElem? hj, fun e => ?_⟩
  subst e
  exact hne (nd_idx h hk hj rfl)
theorem map_set {l : List api_Call} {k : Nat} {z z' : api_Call} (hk : l[k]? = some z) (e : z'.Req_ = z.Req_) : (l.set k z').map (fun x => x.Req_) = l.map fun x => x.Req_ := by
 refine List.ext_getElem? fun j => ?_
 rw [List.getElem?_map, List.getElem?_map, List.getElem?_set]
 split
 ·rename_i h; subst h
  obtain ⟨h1, _⟩ := List.getElem?_eq_some_iff.1 hk
  rw [if_pos h1, hk]
  show some z'.Req_ = some z.Req_
  rw [e]
 ·rfl
theorem map_tags {l l' : List api_Call} (h : l'.map (fun x => x.Req_) = l.map fun x => x.Req_) : (l'.map fun x => x.Req_.Tag_) = l.map fun x => x.Req_.Tag_ := by
 have e : ∀ l : List api_Call, (l.map fun x => x.Req_.Tag_) = (l.map fun x => x.Req_).map fun m => m.Tag_ := fun l => by rw [List.map_map]; rfl
 rw [e, e, h]
theorem flu_map {l l' : List api_Call} (h : l'.map (fun x => x.Req_) = l.map fun x => x.Req_) (t : Int) : flu l' t = flu l t := by
 have e : ∀ l : List api_Call, flu l t = (((l.map fun x => x.Req_).find? (fun m => m.Kind_ == 108 && m.OldTag_ == t)).map fun m => m.Tag_).getD 65535 := by
  intro l
  unfold flu
  rw [List.find?_map]
  show _ = (((l.find? (cD_ t)).map fun x => x.Req_).map _).getD 65535
  rw [Option.map_map]; rfl
 rw [e, e, h]
theorem CV.dropE {l : List api_Call} (h : CV l) {i k : Nat} {x z : api_Call} (hi : l[i]? = some x) (hkx : x.Req_.Kind_ = 108) (hk : (l.eraseIdx i)[k]? = some z) (ht : z.Req_.Tag_ = x.Req_.OldTag_) : CV ((l.eraseIdx i).set k ⟨z.Req_, 65535⟩) := by
 have hs1 := List.eraseIdx_sublist l i
 have hxm := List.mem_of_getElem? hi
 have hnd1 : ((l.eraseIdx i).map fun x => x.Req_.Tag_).Nodup := h.nd.sublist (hs1.map _)
 have hmap := map_set (z' := ⟨z.Req_, 65535⟩) hk rfl
 have hlen : ((l.eraseIdx i).set k ⟨z.Req_, 65535⟩).length = (l.eraseIdx i).length := List.length_set
 have hz := (cY_ h.nd hi).1 (List.mem_of_getElem? hk)
 -- each call stands for one of before
 have hm : ∀ y ∈ (l.eraseIdx i).set k ⟨z.Req_, 65535⟩, (y = ⟨z.Req_, 65535⟩) ∨ (y ∈ l ∧ y ≠ x ∧ y ≠ z) := fun y hy => by
  rcases nh_ hnd1 hk hy with h1 | ⟨h1, h2⟩
  ·exact .inl h1
  ·obtain ⟨a, b⟩ := (cY_ h.nd hi).1 h1
   exact .inr ⟨a, b, h2⟩
 have hr : ∀ y ∈ (l.eraseIdx i).set k ⟨z.Req_, 65535⟩, ∃ y0 ∈ l, y0.Req_ = y.Req_ := fun y hy => by
  rcases hm y hy with rfl | ⟨h1, _⟩
  ·exact ⟨z, hz.1, rfl⟩
  ·exact ⟨y, h1, rfl⟩
 have hzk : z.Req_.Kind_ ≠ 108 := (h.fl x hxm hkx).2 z hz.1 ht
 have hone : l.length ≠ 1 := fun e => by
  have h1 := List.length_pos_of_mem (List.mem_of_getElem? hk)
  rw [List.length_eraseIdx] at h1
  have h2 := (List.getElem?_eq_some_iff.1 hi).1
  rw [if_pos h2] at h1
  omega
 refine ⟨fun y hy => ?_, by rw [map_tags hmap]; exact hnd1, fun y hy => ?_, fun y hy ky => ?_, fun y hy ky w hw kw e => ?_, fun y hy ky => ?_, fun y hy k1 k2 => ?_⟩
 ·obtain ⟨y0, h1, h2⟩ := hr y hy
  rw [← h2]; exact h.each y0 h1
 ·obtain ⟨y0, h1, h2⟩ := hr y hy
  rw [← h2]; exact h.tag y0 h1
 ·obtain ⟨y0, h1, h2⟩ := hr y hy
  rw [← h2] at ky
  exact absurd (h.ver y0 h1 ky).1 hone
 ·obtain ⟨y0, h1, h2⟩ := hr y hy
  obtain ⟨w0, h3, h4⟩ := hr w hw
  rw [← h2] at ky e ⊢
  rw [← h4] at kw e ⊢
  exact h.one y0 h1 ky w0 h3 kw e
 ·rcases hm y hy with rfl | ⟨h1, h2, h3⟩
  ·exact absurd ky hzk
  ·refine ⟨(h.fl y h1 ky).1, fun w hw e => ?_⟩
   obtain ⟨w0, h4, h5⟩ := hr w hw
   rw [← h5] at e ⊢
   exact (h.fl y h1 ky).2 w0 h4 e
 ·rw [flu_map hmap]
  rcases hm y hy with rfl | ⟨h1, h2, h3⟩
  ·refine (n7_ fun w hw => ?_).symm
   cases hw2 : cD_ z.Req_.Tag_ w with
   | false => rfl
   | true =>
    obtain ⟨a, b⟩ := (cY_ h.nd hi).1 hw
    obtain ⟨c, d⟩ := isFl_iff.1 hw2
    exact absurd (nd_eq h.nd a hxm (h.one x hxm hkx w a c (d.trans ht))) b
  ·rw [h.other y h1 k1 k2]
   refine (ng_ h hs1 fun w hw e => (cY_ h.nd hi).2 ⟨hw, fun e2 => h3 ?_⟩).symm
   refine nd_eq h.nd h1 hz.1 ?_
   rw [ht, ← e2]; exact (isFl_iff.1 e).2.symm
def freeT (l : List api_Call) (n : Int) : Prop := (∀ x ∈ l, x.Req_.Tag_ ≠ n) ∧ ∀ x ∈ l, cD_ n x = false
theorem CV.add {l : List api_Call} (h : CV l) {m : api_Msg} (hk : m.Kind_ ≠ 108) (hr : cE_ m.Kind_ = true) (hc : d6_ m = true) (hv : ∀ x ∈ l, x.Req_.Kind_ ≠ 100) (h100 : m.Kind_ = 100 → l = []) (hn : m.Kind_ ≠ 100 → 1 ≤ m.Tag_ ∧ freeT l m.Tag_) : CV (l ++ [⟨m, 65535⟩]) := by
 have hm : ∀ x ∈ l ++ [(⟨m, 65535⟩ : api_Call)], x ∈ l ∨ x = ⟨m, 65535⟩ := fun x hx => by simpa using hx
 have hf : ∀ t, flu (l ++ [⟨m, 65535⟩]) t = flu l t := fun t => by
  unfold flu
  rw [List.find?_append]
  have : cD_ t ⟨m, 65535⟩ = false := by
   cases hb : cD_ t ⟨m, 65535⟩ with
   | false => rfl
   | true => exact absurd (isFl_iff.1 hb).1 hk
  cases l.find? (cD_ t) with
  | some x => rfl
  | none => simp [List.find?, this]
 refine ⟨fun x hx => ?_, ?_, fun x hx k => ?_, fun x hx k => ?_, fun x hx kx y hy ky => ?_, fun x hx k => ?_, fun x hx k1 k2 => ?_⟩
 ·rcases hm x hx with h1 | rfl
  ·exact h.each x h1
  ·exact ⟨hr, hc⟩
 ·rw [List.map_append, List.nodup_append]
  refine ⟨h.nd, by simp, fun a ha b hb => ?_⟩
  simp only [List.map_cons, List.map_nil, List.mem_singleton] at hb
  subst hb
  obtain ⟨x, hx, rfl⟩ := List.mem_map.1 ha
  by_cases k : m.Kind_ = 100
  ·rw [h100 k] at hx; cases hx
  ·exact (hn k).2.1 x hx
 ·rcases hm x hx with h1 | rfl
  ·exact h.tag x h1 k
  ·exact (hn k).1
 ·rcases hm x hx with h1 | rfl
  ·exact absurd k (hv x h1)
  ·rw [h100 k]; exact ⟨rfl, rfl⟩
 ·rcases hm x hx with h1 | rfl
  ·rcases hm y hy with h2 | rfl
   ·exact h.one x h1 kx y h2 ky
   ·exact absurd ky hk
  ·exact absurd kx hk
 ·rcases hm x hx with h1 | rfl
  ·refine ⟨(h.fl x h1 k).1, fun y hy e => ?_⟩
   rcases hm y hy with h2 | rfl
   ·exact (h.fl x h1 k).2 y h2 e
   ·exact hk
  ·exact absurd k hk
 ·rw [hf]
  rcases hm x hx with h1 | rfl
  ·exact h.other x h1 k1 k2
  ·exact (n7_ (hn k1).2.2).symm
theorem CV.flush {l : List api_Call} (h : CV l) {i : Nat} {x : api_Call} {m : api_Msg} (hi : l[i]? = some x) (k1 : x.Req_.Kind_ ≠ 100) (k2 : x.Req_.Kind_ ≠ 108) (hfl : x.Flush_ = 65535) (ht : ∀ y ∈ l, y.Req_.Tag_ ≠ 65535) (hk : m.Kind_ = 108) (ho : m.OldTag_ = x.Req_.Tag_) (hr : cE_ m.Kind_ = true) (hc : d6_ m = true) (h1t : 1 ≤ m.Tag_) (hn : freeT l m.Tag_) :
  CV (l.set i ⟨x.Req_, m.Tag_⟩ ++ [⟨m, 65535⟩]) := by
 have hx := List.mem_of_getElem? hi
 have hmap := map_set (z' := ⟨x.Req_, m.Tag_⟩) hi rfl
 have hv : ∀ y ∈ l, y.Req_.Kind_ ≠ 100 := fun y hy k => by
  have h1 := (h.ver y hy k).1
  obtain ⟨j, hj⟩ := List.mem_iff_getElem?.1 hy
  have a := (List.getElem?_eq_some_iff.1 hi).1
  have b := (List.getElem?_eq_some_iff.1 hj).1
  have : i = j := by omega
  subst this
  obtain rfl := Option.some.inj (hi.symm.trans hj)
  exact k1 k
 have hno : ∀ y ∈ l, cD_ x.Req_.Tag_ y = false := fun y hy => by
  cases hb : cD_ x.Req_.Tag_ y with
  | false => rfl
  | true =>
   have e1 := j9_ h.one hy hb
   rw [← h.other x hx k1 k2, hfl] at e1
   exact absurd e1.symm (ht y hy)
 have hm : ∀ y ∈ l.set i ⟨x.Req_, m.Tag_⟩ ++ [(⟨m, 65535⟩ : api_Call)], (y = ⟨x.Req_, m.Tag_⟩ ∨ (y ∈ l ∧ y ≠ x)) ∨ y = ⟨m, 65535⟩ := fun y hy => by
  rcases List.mem_append.1 hy with h1 | h1
  ·exact .inl (nh_ h.nd hi h1)
  ·exact .inr (by simpa using h1)
 have hr0 : ∀ y ∈ l.set i ⟨x.Req_, m.Tag_⟩ ++ [(⟨m, 65535⟩ : api_Call)], (∃ y0 ∈ l, y0.Req_ = y.Req_) ∨ y = ⟨m, 65535⟩ := fun y hy => by
  rcases hm y hy with (rfl | ⟨h1, _⟩) | h1
  ·exact .inl ⟨x, hx, rfl⟩
  ·exact .inl ⟨y, h1, rfl⟩
  ·exact .inr h1
 have hone : ∀ y ∈ l.set i ⟨x.Req_, m.Tag_⟩ ++ [(⟨m, 65535⟩ : api_Call)], y.Req_.Kind_ = 108 → ∀ z ∈ l.set i ⟨x.Req_, m.Tag_⟩ ++ [(⟨m, 65535⟩ : api_Call)], z.Req_.Kind_ = 108 → z.Req_.OldTag_ = y.Req_.OldTag_ → z.Req_.Tag_ = y.Req_.Tag_ := by
  intro y hy ky z hz kz e
  rcases hr0 y hy with ⟨y0, h1, h2⟩ | rfl
  ·rcases hr0 z hz with ⟨z0, h3, h4⟩ | rfl
   ·rw [← h2] at ky e ⊢
    rw [← h4] at kz e ⊢
    exact h.one y0 h1 ky z0 h3 kz e
   ·have : cD_ x.Req_.Tag_ y0 = true := isFl_iff.2 ⟨by rw [h2]; exact ky, by rw [h2, ← e]; exact ho⟩
    rw [hno y0 h1] at this; cases this
  ·rcases hr0 z hz with ⟨z0, h3, h4⟩ | rfl
   ·have : cD_ x.Req_.Tag_ z0 = true := isFl_iff.2 ⟨by rw [h4]; exact kz, by rw [h4, e]; exact ho⟩
    rw [hno z0 h3] at this; cases this
   ·rfl
 refine ⟨fun y hy => ?_, ?_, fun y hy k => ?_, fun y hy k => ?_, hone, fun y hy k => ?_, fun y hy q1 q2 => ?_⟩
 ·rcases hr0 y hy with ⟨y0, h1, h2⟩ | rfl
  ·rw [← h2]; exact h.each y0 h1
  ·exact ⟨hr, hc⟩
 ·rw [List.map_append, map_tags hmap, List.nodup_append]
  refine ⟨h.nd, by simp, fun a ha b hb => ?_⟩
  simp only [List.map_cons, List.map_nil, List.mem_singleton] at hb
  subst hb
  obtain ⟨y, hy, rfl⟩ := List.mem_map.1 ha
  exact hn.1 y hy
 ·rcases hr0 y hy with ⟨y0, h1, h2⟩ | rfl
  ·rw [← h2] at k ⊢; exact h.tag y0 h1 k
  ·exact h1t
 ·rcases hr0 y hy with ⟨y0, h1, h2⟩ | rfl
  ·rw [← h2] at k; exact absurd k (hv y0 h1)
  ·rw [show (⟨m, 65535⟩ : api_Call).Req_.Kind_ = m.Kind_ from rfl, hk] at k; omega
 ·rcases hm y hy with (rfl | ⟨h1, h2⟩) | rfl
  ·exact absurd k k2
  ·refine ⟨(h.fl y h1 k).1, fun z hz e => ?_⟩
   rcases hr0 z hz with ⟨z0, h3, h4⟩ | rfl
   ·rw [← h4] at e ⊢; exact (h.fl y h1 k).2 z0 h3 e
   ·have : cD_ m.Tag_ y = true := isFl_iff.2 ⟨k, e.symm⟩
    rw [hn.2 y h1] at this; cases this
  ·refine ⟨rfl, fun z hz e => ?_⟩
   have e : z.Req_.Tag_ = x.Req_.Tag_ := e.trans ho
   rcases hr0 z hz with ⟨z0, h3, h4⟩ | rfl
   ·rw [← h4] at e ⊢
    rw [nd_eq h.nd h3 hx e]; exact k2
   ·exact absurd e.symm (hn.1 x hx)
 ·rcases hm y hy with (rfl | ⟨h1, h2⟩) | rfl
  ·exact (j9_ hone (List.mem_append_right _ (List.mem_singleton_self _)) (isFl_iff.2 ⟨hk, ho⟩)).symm
  ·rw [h.other y h1 q1 q2]
   unfold flu
   rw [List.find?_append]
   have e1 := flu_map hmap y.Req_.Tag_
   have : cD_ y.Req_.Tag_ ⟨m, 65535⟩ = false := by
    cases hb : cD_ y.Req_.Tag_ ⟨m, 65535⟩ with
    | false => rfl
    | true => exact absurd (nd_eq h.nd h1 hx ((isFl_iff.1 hb).2.symm.trans ho)) h2
   unfold flu at e1
   cases hq : (l.set i ⟨x.Req_, m.Tag_⟩).find? (cD_ y.Req_.Tag_) with
   | some w => rw [hq] at e1; exact e1.symm
   | none => rw [hq] at e1; rw [← e1]; simp [List.find?, this]
  ·exact absurd hk q2
end Go.Proofs.YtolgkhjkdadhiaaGreat
namespace Go.Proofs.YtolgkhjkdadhiaaGreat
open Go.Rt Go.RowKit
theorem delN_one {α : Type} {xs : List α} {p : Nat} (h : p < xs.length) : delN xs (p : Int) ((p + 1 : Nat) : Int) = some (xs.take p ++ xs.drop (p + 1)) := by
 cases xs with
 | nil => simp at h
 | cons a l =>
  show (if 0 ≤ (p : Int) ∧ (p : Int) ≤ ((p + 1 : Nat) : Int) ∧ ((p + 1 : Nat) : Int) ≤ ((a :: l).length : Int) then some ((a :: l).take (p : Int).toNat ++ (a :: l).drop ((p + 1 : Nat) : Int).toNat) else none) = _
  rw [if_pos ⟨by omega, by omega, by omega⟩, Int.toNat_natCast, Int.toNat_natCast]
end Go.Proofs.YtolgkhjkdadhiaaGreat
namespace Go.Proofs.YtolgkhjkdadhiaaGreat
open Go.Rt Go.RowKit
structure G (c : api_Client) : Prop where
 calls : c.Calls_.length ≤ 1000
 fids : c.Fids_.length ≤ 1000
 part : c.Partial_.length ≤ 100000
 each : ∀ x ∈ c.Calls_, Sz x.Req_ ∧ x.Req_.ok
theorem G.szc {c : api_Client} (h : G c) : SzC c := ⟨h.calls, h.fids, fun x hx => (h.each x hx).1⟩
theorem G.rsz {c : api_Client} (h : G c) : RSz c := ⟨by have := h.calls; omega, by have := h.fids; omega, by have := h.part; omega, fun x hx => (h.each x hx).2⟩
structure RP (c : api_Client) : Prop where
 ms : msB c = true
 sess : c.Session_.length ≤ 64
 fl : c.Fids_.length ≤ 256
 fids : fidsB c.Fids_ = true
 len : c.Calls_.length ≤ 64
 cv : CV c.Calls_
 spl : splB c = true
 up : c.Up_ = true ∨ (c.Calls_ = [] ∧ c.Partial_ = [])
theorem right_iff (c : api_Client) : j8_ c = true ↔ RP c := by
 unfold j8_
 simp only [Bool.and_eq_true, Bool.or_eq_true, decide_eq_true_eq, beq_iff_eq, List.length_eq_zero_iff]
 exact ⟨fun ⟨⟨⟨⟨⟨a, b⟩, c, d⟩, e, f⟩, g⟩, h⟩ => ⟨a, b, c, d, e, .of_calls f, g, h⟩, fun h => ⟨⟨⟨⟨⟨h.ms, h.sess⟩, h.fl, h.fids⟩, h.len, h.cv.calls⟩, h.spl⟩, h.up⟩⟩
theorem RP.calls {c : api_Client} (h : RP c) (hu : c.Up_ = true) {l : List api_Call} (hl : l.length ≤ 64) (hc : CV l) : RP ⟨c.Up_, c.Msize_, c.Session_, c.Fids_, l, c.Partial_⟩ :=
 ⟨h.ms, h.sess, h.fl, h.fids, hl, hc, h.spl, .inl hu⟩
theorem req_even {k : Int} (h : cE_ k = true) : k ≠ 101 ∧ k ≠ 107 := by
 unfold cE_ at h
 rw [Bool.and_eq_true] at h
 constructor <;> (rintro rfl; exact absurd h.1 (by decide))
theorem chk_tagged {m : api_Msg} (h : d6_ m = true) : cj_ m = some true := by
 unfold d6_ at h
 have h : aX_ m = some 0 := by simpa using h
 unfold aX_ at h
 obtain ⟨nm, e1⟩ := Option.get_some (eR_ m.Kind_)
 rw [e1, Option.bind_some] at h
 cases hn : (nm == []) with
 | true => rw [hn] at h; cases h
 | false =>
  rw [hn, cond_false] at h
  obtain ⟨g, e2⟩ := Option.get_some (iB_ m)
  rw [e2, Option.bind_some] at h
  cases g with
  | false => cases h
  | true => exact e2
theorem chk_tag {m : api_Msg} (hr : cE_ m.Kind_ = true) (h : d6_ m = true) : (m.Kind_ = 100 → m.Tag_ = 65535) ∧ (m.Kind_ ≠ 100 → 0 ≤ m.Tag_ ∧ m.Tag_ ≤ 65534) := by
 have ht := chk_tagged h
 obtain ⟨a, b⟩ := req_even hr
 unfold cj_ at ht
 refine ⟨fun k => ?_, fun k => ?_⟩
 ·rw [k] at ht
  have : (m.Tag_ == 65535) = true := Option.some.inj ht
  simpa using this
 ·rw [show (m.Kind_ == 100) = false by simpa using k, show (m.Kind_ == 101) = false by simpa using a, show (m.Kind_ == 107) = false by simpa using b] at ht
  have : ((decide (m.Tag_ ≥ 0)) && (decide (m.Tag_ ≤ 65534))) = true := Option.some.inj ht
  simpa using this
theorem CV.not_no {l : List api_Call} (h : CV l) {x : api_Call} (hx : x ∈ l) (k : x.Req_.Kind_ ≠ 100) : x.Req_.Tag_ ≠ 65535 := by
 obtain ⟨a, b⟩ := h.each x hx
 have := ((chk_tag a b).2 k).2
 omega
theorem ver_idx {l : List api_Call} (h : CV l) : decide (bY_ l 65535 ≥ 0) = l.any fun x => x.Req_.Kind_ == 100 := by
 rcases fa_ l 65535 with ⟨h1, h2⟩ | ⟨i, x, _, h2, h3, h4⟩
 ·rw [h2]
  symm
  show _ = false
  rw [List.any_eq_false]
  intro x hx
  obtain ⟨a, b⟩ := h.each x hx
  intro k
  exact List.find?_eq_none.1 h1 x hx (by simpa [d0_] using (chk_tag a b).1 (by simpa using k))
 ·rw [h2]
  have hx := List.mem_of_getElem? h3
  have : (l.any fun x => x.Req_.Kind_ == 100) = true := by
   refine List.any_eq_true.2 ⟨x, hx, ?_⟩
   by_cases k : x.Req_.Kind_ = 100
   ·simpa using k
   ·exact absurd h4 (h.not_no hx k)
  rw [this]; simp
def fj_ (l : List api_Call) (n : Int) : Bool := decide (bY_ l n ≥ 0) || (flu l n != 65535)
theorem taken_mem {l : List api_Call} {n : Int} (h : fj_ l n = true) : n ∈ (l.map fun x => x.Req_.Tag_) ++ l.map fun x => x.Req_.OldTag_ := by
 unfold fj_ at h
 rw [Bool.or_eq_true] at h
 rw [List.mem_append]
 rcases h with h | h
 ·rcases fa_ l n with ⟨_, h2⟩ | ⟨i, x, _, _, h3, h4⟩
  ·rw [h2] at h; exact absurd h (by decide)
  ·exact .inl (List.mem_map.2 ⟨x, List.mem_of_getElem? h3, h4⟩)
 ·rcases l1_ l n with ⟨_, h2⟩ | ⟨x, hx, h1, _⟩
  ·rw [h2] at h; exact absurd h (by decide)
  ·exact .inr (List.mem_map.2 ⟨x, hx, (isFl_iff.1 h1).2⟩)
theorem pM_ (p : Nat → Bool) : ∀ N : Nat, (∀ n, 1 ≤ n → n ≤ N → p n = true) ∨ ∃ n, 1 ≤ n ∧ n ≤ N ∧ p n = false ∧ ∀ m, 1 ≤ m → m < n → p m = true
 | 0 => .inl fun n h1 h2 => by omega
 | N + 1 => by
  rcases pM_ p N with h | ⟨n, h1, h2, h3⟩
  ·cases hp : p (N + 1) with
   | true =>
    refine .inl fun n h1 h2 => ?_
    by_cases e : n = N + 1
    ·rw [e]; exact hp
    ·exact h n h1 (by omega)
   | false => exact .inr ⟨N + 1, by omega, Nat.le_refl _, hp, fun m h1 h2 => h m h1 (by omega)⟩
  ·exact .inr ⟨n, h1, by omega, h3⟩
theorem free_ex {l : List api_Call} (hl : l.length ≤ 1000) : ∃ n : Nat, 1 ≤ n ∧ n ≤ 2001 ∧ fj_ l (n : Int) = false ∧ ∀ m : Nat, 1 ≤ m → m < n → fj_ l (m : Int) = true := by
 rcases pM_ (fun n => fj_ l (n : Int)) 2001 with h | h
 ·exfalso
  have h1 : ((List.range' 1 2001).map fun n : Nat => (n : Int)).length ≤ ((l.map fun x => x.Req_.Tag_) ++ l.map fun x => x.Req_.OldTag_).length := by
   refine List.Nodup.length_le_of_subset ?_ fun x hx => ?_
   ·exact List.pairwise_map.2 ((List.nodup_range' (step := 1)).imp fun h => by omega)
   ·obtain ⟨n, hn, rfl⟩ := List.mem_map.1 hx
    have := List.mem_range'_1.1 hn
    exact taken_mem (h n (by omega) (by omega))
  simp at h1
  omega
 ·exact h
theorem free_loop {l : List api_Call} (hl : l.length ≤ 1000) {n : Nat} (hn : n ≤ 2001) (h0 : fj_ l (n : Int) = false) (hm : ∀ m : Nat, 1 ≤ m → m < n → fj_ l (m : Int) = true) : ∀ (k fuel i : Nat), 1 ≤ i → i + k = n → k < fuel → an_ (iu_ l) fuel (i : Int) = some (n : Int) ∧ an_ (hu_ l) fuel (i : Int) = some (.ret (n : Int)) := by
 have hb : ∀ i : Nat, iu_ l (i : Int) = bif fj_ l (i : Int) then some (.next (w64 ((i : Int) + 1))) else some (.done (i : Int)) := fun i => by
  unfold iu_ fj_
  refine aa_ (ih_ _ (by omega)) (aa_ (a := decide (bY_ l (i : Int) ≥ 0) || (flu l (i : Int) != 65535)) ?_ rfl)
  cases decide (bY_ l (i : Int) ≥ 0) with
  | true => rfl
  | false => exact ab_ rfl (aa_ (l0_ _ (by omega)) rfl)
 have hr : ∀ i : Nat, i ≤ 2001 → hu_ l (i : Int) = bif fj_ l (i : Int) then some (.next (w64 ((i : Int) + 1))) else some (.done (.ret (i : Int))) := fun i hi => by
  unfold hu_ fj_
  refine ac_ (by simp; omega) (aa_ (ci_ _ (by omega)) (aa_ (a := !(decide (bY_ l (i : Int) ≥ 0) || (flu l (i : Int) != 65535))) ?_ ?_))
  ·have e : decide (bY_ l (i : Int) < 0) = !(decide (bY_ l (i : Int) ≥ 0)) := by rw [Bool.eq_iff_iff]; simp
   rw [e]
   cases decide (bY_ l (i : Int) ≥ 0) with
   | true => rfl
   | false => exact ac_ rfl (aa_ (gu_ _ (by omega)) (by simp [bne]))
  ·cases decide (bY_ l (i : Int) ≥ 0) || (flu l (i : Int) != 65535) <;> rfl
 intro k
 induction k with
 | zero =>
  intro fuel i hi e hk
  obtain ⟨f, rfl⟩ : ∃ f, fuel = f + 1 := ⟨fuel - 1, by omega⟩
  obtain rfl : i = n := by omega
  exact ⟨ar_ (by rw [hb, h0]; rfl), ar_ (by rw [hr i hn, h0]; rfl)⟩
 | succ k ih =>
  intro fuel i hi e hk
  obtain ⟨f, rfl⟩ : ∃ f, fuel = f + 1 := ⟨fuel - 1, by omega⟩
  obtain ⟨i1, i2⟩ := ih f (i + 1) (by omega) (by omega) (by omega)
  have ht := hm i hi (by omega)
  exact ⟨ay_ (by rw [hb, ht, cond_true, cx_ (by omega)]) i1, ay_ (by rw [hr i (by omega), ht, cond_true, cx_ (by omega)]) i2⟩
theorem free_both {l : List api_Call} (h : CV l) (hl : l.length ≤ 1000) : ∃ n : Nat, 1 ≤ n ∧ n ≤ 2001 ∧ freeT l (n : Int) ∧ lH_ l = some (n : Int) ∧ mB_ l = some (n : Int) := by
 have hB : BIG = 18446744073709551616 := rfl
 obtain ⟨n, h1, h2, h3, h4⟩ := free_ex hl
 obtain ⟨a, b⟩ := free_loop hl h2 h3 h4 (n - 1) BIG 1 (Nat.le_refl _) (by omega) (by omega)
 refine ⟨n, h1, h2, ?_, aa_ a rfl, aa_ b rfl⟩
 unfold fj_ at h3
 rw [Bool.or_eq_false_iff] at h3
 refine ⟨fun x hx e => ?_, fun x hx => ?_⟩
 ·rcases fa_ l (n : Int) with ⟨q1, _⟩ | ⟨i, y, _, q2, _⟩
  ·exact List.find?_eq_none.1 q1 x hx (by simpa [d0_] using e)
  ·rw [q2] at h3; exact absurd h3.1 (by simp)
 ·cases hb : cD_ (n : Int) x with
  | false => rfl
  | true =>
   have e := j9_ h.one hx hb
   have h5 : flu l (n : Int) = 65535 := by simpa using h3.2
   rw [h5] at e
   exact absurd e.symm (h.not_no hx (by rw [(isFl_iff.1 hb).1]; decide))
theorem put_chk {m : api_Msg} {s : Str} (h : dx_ m = some (s, 0)) (hs : m.ok) : d6_ m = true := by
 obtain ⟨c, hc⟩ := hF_ m hs.small
 unfold dx_ at h
 rw [hc, Option.bind_some] at h
 unfold d6_
 rw [hc]
 by_cases h0 : c = 0
 ·subst h0; rfl
 ·rw [show (c != 0) = true by simpa using h0] at h
  simp only [cond_true, Option.some.injEq, Prod.mk.injEq] at h
  exact absurd h.2 h0
def bL_ (m : api_Msg) (n : Int) : api_Msg := api_Msg.mk m.Kind_ n m.Fid_ m.NewFid_ m.AuthFid_ m.OldTag_ m.Msize_ m.Version_ m.User_ m.Attach_ m.Names_ m.Qids_ m.Qid_ m.Iounit_ m.Mode_ m.Perm_ m.Name_ m.Offset_ m.Count_ m.Data_ m.Stat_ m.Err_ m.Lease_ m.Term_ m.Session_
theorem pN_ {m : api_Msg} (h : m.ok) (n : Int) : (bL_ m n).ok := ⟨h.small, h.qids, h.qid⟩
def ii_ (c : api_Client) (l : List api_Call) : api_Client := ⟨c.Up_, c.Msize_, c.Session_, c.Fids_, l, c.Partial_⟩
theorem start_both {c : api_Client} {m : api_Msg} (hg : G c) (hr : RP c) (hm : m.ok) (hz : Sz m) : ∃ v, ks_ c m = some v ∧ kS_ c m = some v ∧ RP v.1 ∧ G v.1 := by
 have hl := hg.calls
 have ho := own_eq hg.szc
 unfold ks_ kS_
 cases hu : c.Up_ with
 | false => exact ⟨_, aa_ ho (ac_ rfl rfl), ac_ rfl rfl, hr, hg⟩
 | true =>
  cases h1 : (!(cE_ m.Kind_)) || (m.Kind_ == 108) with
  | true => exact ⟨_, aa_ ho (ab_ rfl (aa_ (cS_ _) (ac_ h1 rfl))), ab_ rfl (aa_ (cX_ _) (ac_ h1 rfl)), hr, hg⟩
  | false =>
   have hv := rv_ (l := c.Calls_) (by omega)
   have hi := ver_idx hr.cv
   cases h2 : (c.Calls_.any fun x => x.Req_.Kind_ == 100) || ((m.Kind_ == 100) && (decide ((c.Calls_.length : Int) > 0))) with
   | true => exact ⟨_, aa_ ho (ab_ rfl (aa_ (cS_ _) (ab_ h1 (aa_ hv (ac_ h2 rfl))))), ab_ rfl (aa_ (cX_ _) (ab_ h1 (aa_ (ci_ _ (by omega)) (ac_ (by rw [hi]; exact h2) rfl)))), hr, hg⟩
   | false =>
    cases h3 : decide ((c.Calls_.length : Int) ≥ 64) with
    | true => exact ⟨_, aa_ ho (ab_ rfl (aa_ (cS_ _) (ab_ h1 (aa_ hv (ab_ h2 (ac_ rfl rfl)))))), ab_ rfl (aa_ (cX_ _) (ab_ h1 (aa_ (ci_ _ (by omega)) (ab_ (by rw [hi]; exact h2) (ac_ rfl rfl))))), hr, hg⟩
    | false =>
     obtain ⟨n, n1, n2, nf, f1, f2⟩ := free_both hr.cv hl
     rw [Bool.or_eq_false_iff] at h1 h2
     have hlt : c.Calls_.length < 64 := by simp only [decide_eq_false_iff_not] at h3; omega
     have hreq : cE_ m.Kind_ = true := by simpa using h1.1
     have h108 : m.Kind_ ≠ 108 := by simpa using h1.2
     have hv0 : ∀ x ∈ c.Calls_, x.Req_.Kind_ ≠ 100 := fun x hx => by simpa using List.any_eq_false.1 h2.1 x hx
     -- whatever tag it gets
     have go : ∀ t : Int, (m.Kind_ = 100 → c.Calls_ = []) → (m.Kind_ ≠ 100 → 1 ≤ t ∧ freeT c.Calls_ t) → ∃ v : api_Client × Int × Str × Int,
       (Option.bind (iw_ c (bL_ m t)) fun (y6 : Str × Int) => (bif (y6.2 != 0) then some ((c, 0, [], y6.2)) else Option.bind (bF_ 432 c.Calls_ [(api_Call.mk (bL_ m t) 65535)]) fun (y7 : List api_Call) => some ((api_Client.mk c.Up_ c.Msize_ c.Session_ c.Fids_ y7 c.Partial_), t, y6.1, 0))) = some v ∧
       (Option.bind (dp_ (bL_ m t)) fun (y4 : Str × Int) => (bif (y4.2 != 0) then some ((c, 0, [], y4.2)) else (bif ((c.Msize_ != 0) && (decide ((y4.1.length : Int) > c.Msize_))) then some ((c, 0, [], 19)) else Option.bind (gs_ c (bL_ m t)) fun (y5 : api_Client) => some ((y5, (bL_ m t).Tag_, y4.1, 0))))) = some v ∧ RP v.1 ∧ G v.1 := by
      intro t q1 q2
      have hmo := pN_ hm t
      obtain ⟨⟨s, e⟩, p1, p2⟩ := lY_ (bL_ m t) hmo
      unfold iw_
      by_cases he : e = 0
      ·subst he
       cases h4 : (c.Msize_ != 0) && (decide ((s.length : Int) > c.Msize_)) with
       | true => exact ⟨_, aa_ (a := ([], 19)) (aa_ p1 (ab_ rfl (ac_ h4 rfl))) (ac_ rfl rfl), aa_ p2 (ab_ rfl (ac_ h4 rfl)), hr, hg⟩
       | false =>
        have hc := put_chk p1 hmo
        have hcv : CV (c.Calls_ ++ [⟨bL_ m t, 65535⟩]) := hr.cv.add h108 hreq hc hv0 q1 q2
        refine ⟨(ii_ c (c.Calls_ ++ [⟨bL_ m t, 65535⟩]), t, s, 0), aa_ (a := (s, 0)) (aa_ p1 (ab_ rfl (ab_ h4 rfl))) (ab_ rfl (aa_ (bm_ (by simp; omega) (by simp; omega)) rfl)), aa_ p2 (ab_ rfl (ab_ h4 (aa_ (a := ii_ c (c.Calls_ ++ [⟨bL_ m t, 65535⟩])) ?_ rfl))), hr.calls hu (by simp; omega) hcv, ?_⟩
        ·unfold gs_
         exact aa_ (bm_ (by simp; omega) (by simp; omega)) (aa_ (bm_ (by simp; omega) (by simp; omega)) rfl)
        ·refine ⟨by show (c.Calls_ ++ [_]).length ≤ 1000; simp; omega, hg.fids, hg.part, fun x hx => ?_⟩
         rcases List.mem_append.1 (show x ∈ c.Calls_ ++ [⟨bL_ m t, 65535⟩] from hx) with h5 | h5
         ·exact hg.each x h5
         ·rw [List.mem_singleton.1 h5]; exact ⟨hz, hmo⟩
      ·have he' : (e != 0) = true := by simpa using he
       exact ⟨_, aa_ (a := ([], e)) (aa_ p1 (ac_ he' rfl)) (ac_ he' rfl), aa_ p2 (ac_ he' rfl), hr, hg⟩
     cases h5 : m.Kind_ == 100 with
     | true =>
      have hk : m.Kind_ = 100 := by simpa using h5
      have h0 : c.Calls_ = [] := by
       have := h2.2
       rw [h5, Bool.true_and] at this
       simp only [decide_eq_false_iff_not] at this
       exact List.length_eq_zero_iff.1 (by omega)
      obtain ⟨v, g1, g2, g3⟩ := go 65535 (fun _ => h0) (fun h => absurd hk h)
      have h2' : ((c.Calls_.any fun x => x.Req_.Kind_ == 100) || (true && (decide ((c.Calls_.length : Int) > 0)))) = false := by rw [h2.1, h0]; rfl
      have h1' : ((!(cE_ m.Kind_)) || (m.Kind_ == 108)) = false := by rw [Bool.or_eq_false_iff]; exact h1
      refine ⟨v, aa_ ho (ab_ rfl (aa_ (cS_ _) (ab_ h1' (aa_ hv (ab_ h2' (ab_ rfl (aa_ (mO_ hz) (aa_ rfl g1)))))))), ab_ rfl (aa_ (cX_ _) (ab_ h1' (aa_ (ci_ _ (by omega)) (ab_ (by rw [hi]; exact h2') (ab_ rfl (aa_ f2 (aa_ rfl g2))))))), g3⟩
     | false =>
      obtain ⟨v, g1, g2, g3⟩ := go (n : Int) (fun h => absurd h (by simpa using h5)) (fun _ => ⟨by omega, nf⟩)
      have h2' : ((c.Calls_.any fun x => x.Req_.Kind_ == 100) || (false && (decide ((c.Calls_.length : Int) > 0)))) = false := by rw [h2.1]; rfl
      have h1' : ((!(cE_ m.Kind_)) || (m.Kind_ == 108)) = false := by rw [Bool.or_eq_false_iff]; exact h1
      refine ⟨v, aa_ ho (ab_ rfl (aa_ (cS_ _) (ab_ h1' (aa_ hv (ab_ h2' (ab_ rfl (aa_ (mO_ hz) (aa_ (ac_ rfl (aa_ f1 rfl)) g1)))))))), ab_ rfl (aa_ (cX_ _) (ab_ h1' (aa_ (ci_ _ (by omega)) (ab_ (by rw [hi]; exact h2') (ab_ rfl (aa_ f2 (aa_ rfl g2))))))), g3⟩
end Go.Proofs.YtolgkhjkdadhiaaGreat
namespace Go.Proofs.YtolgkhjkdadhiaaGreat
open Go.Rt Go.RowKit
def bD_ (n t : Int) : api_Msg := api_Msg.mk 108 n 0 0 0 t 0 [] [] [] [] [] (api_Qid.mk 0 0 0) 0 0 0 [] 0 0 [] (api_Dir.mk 0 0 (api_Qid.mk 0 0 0) 0 0 0 0 [] [] [] []) 0 0 0 []
theorem ni_ : (api_Qid.mk 0 0 0).ok := by unfold api_Qid.ok InK; decide
theorem zdir_ok : zeroDir.ok := by
 refine ⟨?_, ?_, ni_, ?_, ?_, ?_, ?_, Nat.zero_le _, Nat.zero_le _, Nat.zero_le _, Nat.zero_le _⟩ <;> (unfold InK; decide)
theorem kI_ (n t : Int) : (bD_ n t).ok := ⟨⟨Nat.zero_le _, (fun _ h => nomatch h), Nat.zero_le _, Nat.zero_le _, zdir_ok⟩, (fun _ h => nomatch h), ni_⟩
theorem flushM_chk {n t : Int} (h0 : 0 ≤ n) (h1 : n ≤ 65534) (t0 : 0 ≤ t) (t1 : t ≤ 65534) : aX_ (bD_ n t) = some 0 := by
 have e2 : cj_ (bD_ n t) = some true := by
  show some ((decide (n ≥ 0)) && (decide (n ≤ 65534))) = some true
  simp [h0, h1]
 have e := n3_ (bD_ n t) (kI_ n t) [.o] ((br_ 108).getD []) true rfl e2 rfl (fun hz => ff_108 (bD_ n t) rfl (kI_ n t) hz)
 rw [e]
 show some (aO_ [.o] (bD_ n t)) = some 0
 rw [ck_]
 show some (inR t 0 65534) = some 0
 unfold inR
 rw [if_pos ⟨t0, t1⟩]
theorem l2_ : cE_ 108 = true := by decide
theorem fb_ {l : List api_Call} (t : Int) : (l.find? (d0_ t) = none ∧ bY_ l t = -1 ∧ ∀ x ∈ l, x.Req_.Tag_ ≠ t) ∨ ∃ (i : Nat) (x : api_Call), l.find? (d0_ t) = some x ∧ bY_ l t = (i : Int) ∧ l[i]? = some x ∧ x.Req_.Tag_ = t := by
 rcases fa_ l t with ⟨h1, h2⟩ | h
 ·exact .inl ⟨h1, h2, fun x hx e => List.find?_eq_none.1 h1 x hx (by simpa [d0_] using e)⟩
 ·exact .inr h
theorem pO_ {c : api_Client} (t : Int) (hg : G c) (hr : RP c) : ∃ v, iI_ c t = some v ∧ kT_ c t = some v ∧ RP v.1 ∧ G v.1 ∧
  (v.2.2.2 = 0 → ∃ (i : Nat) (x : api_Call) (n : Nat), c.Up_ = true ∧ c.Calls_[i]? = some x ∧ x.Req_.Tag_ = t ∧ x.Req_.Kind_ ≠ 100 ∧ x.Req_.Kind_ ≠ 108 ∧ 1 ≤ n ∧ n ≤ 2001 ∧ freeT c.Calls_ (n : Int) ∧ v.1 = ii_ c (c.Calls_.set i ⟨x.Req_, (n : Int)⟩ ++ [⟨bD_ (n : Int) t, 65535⟩]) ∧ v.2.1 = (n : Int)) := by
 have hl := hg.calls
 have ho := own_eq hg.szc
 have hi := ih_ (l := c.Calls_) t (by omega)
 have hir := ci_ (l := c.Calls_) t (by omega)
 unfold iI_ kT_
 cases hu : c.Up_ with
 | false => exact ⟨(c, 0, [], 30), aa_ ho (aa_ hi (ac_ rfl rfl)), ac_ rfl rfl, hr, hg, fun h => absurd (show (30 : Int) = 0 from h) (by decide)⟩
 | true =>
  rcases fb_ (l := c.Calls_) t with ⟨_, h1, _⟩ | ⟨i, x, _, h1, h2, h3⟩
  ·have e : decide (bY_ c.Calls_ t < 0) = true := by rw [h1]; rfl
   exact ⟨(c, 0, [], 17), aa_ ho (aa_ hi (ab_ rfl (aa_ (ac_ e rfl) (aa_ rfl (ac_ rfl rfl))))), ab_ rfl (aa_ hir (aa_ (ac_ e rfl) (aa_ rfl (ac_ rfl rfl)))), hr, hg, fun h => absurd (show (17 : Int) = 0 from h) (by decide)⟩
  ·have e : decide (bY_ c.Calls_ t < 0) = false := by rw [h1]; simp
   have g : au_ c.Calls_ (bY_ c.Calls_ t) = some x := by rw [h1, dz_, h2]
   have hx := List.mem_of_getElem? h2
   by_cases hk : x.Req_.Kind_ = 108 ∨ x.Req_.Kind_ = 100
   ·refine ⟨(c, 0, [], 17), ?_, ?_, hr, hg, fun h => absurd (show (17 : Int) = 0 from h) (by decide)⟩
    ·refine aa_ ho (aa_ hi (ab_ rfl (aa_ (a := x.Req_.Kind_ == 108) (ab_ e (aa_ g rfl)) (aa_ (a := true) ?_ (ac_ rfl rfl)))))
     cases hk8 : x.Req_.Kind_ == 108 with
     | true => rfl
     | false => exact ab_ rfl (aa_ g (by rcases hk with hk | hk <;> simp_all))
    ·refine ab_ rfl (aa_ hir (aa_ (a := x.Req_.Kind_ == 108) (ab_ e (aa_ g rfl)) (aa_ (a := true) ?_ (ac_ rfl rfl))))
     cases hk8 : x.Req_.Kind_ == 108 with
     | true => rfl
     | false => exact ab_ rfl (aa_ g (by rcases hk with hk | hk <;> simp_all))
   ·have k8 : x.Req_.Kind_ ≠ 108 := fun h => hk (.inl h)
    have k0 : x.Req_.Kind_ ≠ 100 := fun h => hk (.inr h)
    have e8 : (x.Req_.Kind_ == 108) = false := by simpa using k8
    have e0 : (x.Req_.Kind_ == 100) = false := by simpa using k0
    have a1 : (bif decide (bY_ c.Calls_ t < 0) then some true else Option.bind (au_ c.Calls_ (bY_ c.Calls_ t)) fun (y3 : api_Call) => some (y3.Req_.Kind_ == 108)) = some false := ab_ e (aa_ g (by rw [e8]))
    have a2 : (bif false then some true else Option.bind (au_ c.Calls_ (bY_ c.Calls_ t)) fun (y5 : api_Call) => some (y5.Req_.Kind_ == 100)) = some false := ab_ rfl (aa_ g (by rw [e0]))
    cases hf : x.Flush_ != 65535 with
    | true =>
     exact ⟨(c, 0, [], 56), aa_ ho (aa_ hi (ab_ rfl (aa_ a1 (aa_ a2 (ab_ rfl (aa_ g (ac_ hf rfl))))))), ab_ rfl (aa_ hir (aa_ a1 (aa_ a2 (ab_ rfl (aa_ g (ac_ hf rfl)))))), hr, hg, fun h => absurd (show (56 : Int) = 0 from h) (by decide)⟩
    | false =>
     cases h64 : decide ((c.Calls_.length : Int) ≥ 64) with
     | true =>
      exact ⟨(c, 0, [], 22), aa_ ho (aa_ hi (ab_ rfl (aa_ a1 (aa_ a2 (ab_ rfl (aa_ g (ab_ hf (ac_ rfl rfl)))))))), ab_ rfl (aa_ hir (aa_ a1 (aa_ a2 (ab_ rfl (aa_ g (ab_ hf (ac_ rfl rfl))))))), hr, hg, fun h => absurd (show (22 : Int) = 0 from h) (by decide)⟩
     | false =>
      obtain ⟨n, n1, n2, nf, f1, f2⟩ := free_both hr.cv hl
      have hlt : c.Calls_.length < 64 := by simp only [decide_eq_false_iff_not] at h64; omega
      have hfl : x.Flush_ = 65535 := by simpa using hf
      obtain ⟨c1, c2⟩ := hr.cv.each x hx
      have ht := (chk_tag c1 c2).2 k0
      rw [h3] at ht
      obtain ⟨⟨s, e1⟩, p1, p2⟩ := lY_ (bD_ (n : Int) t) (kI_ _ _)
      have hc : d6_ (bD_ (n : Int) t) = true := by
       unfold d6_
       rw [flushM_chk (by omega) (by omega) ht.1 ht.2]; rfl
      have hall : ∀ y ∈ c.Calls_, y.Req_.Tag_ ≠ 65535 := fun y hy => by
       refine hr.cv.not_no hy fun k => ?_
       have h5 := (hr.cv.ver y hy k).1
       obtain ⟨j, hj⟩ := List.mem_iff_getElem?.1 hy
       have a := (List.getElem?_eq_some_iff.1 h2).1
       have b := (List.getElem?_eq_some_iff.1 hj).1
       have : i = j := by omega
       subst this
       obtain rfl := Option.some.inj (h2.symm.trans hj)
       exact k0 k
      have hcv : CV (c.Calls_.set i ⟨x.Req_, (n : Int)⟩ ++ [⟨bD_ (n : Int) t, 65535⟩]) := hr.cv.flush h2 k0 k8 hfl hall (m := bD_ (n : Int) t) rfl h3.symm l2_ hc (by show (1 : Int) ≤ (n : Int); omega) nf
      have hit : (bY_ c.Calls_ t).toNat = i := by rw [h1]; rfl
      have hilt := (List.getElem?_eq_some_iff.1 h2).1
      refine ⟨(ii_ c (c.Calls_.set i ⟨x.Req_, (n : Int)⟩ ++ [⟨bD_ (n : Int) t, 65535⟩]), (n : Int), s, 0), aa_ ho (aa_ hi (ab_ rfl (aa_ a1 (aa_ a2 (ab_ rfl (aa_ g (ab_ hf (ab_ rfl (aa_ f1 (aa_ p1 (aa_ g (aa_ (a := c.Calls_.set i ⟨x.Req_, (n : Int)⟩ ++ [⟨bD_ (n : Int) t, 65535⟩]) ?_ rfl)))))))))))), ab_ rfl (aa_ hir (aa_ a1 (aa_ a2 (ab_ rfl (aa_ g (ab_ hf (ab_ rfl (aa_ f2 (aa_ (a := ii_ c (c.Calls_ ++ [⟨bD_ (n : Int) t, 65535⟩])) ?_ (aa_ (a := x) ?_ (aa_ p2 ?_))))))))))), hr.calls hu (by simp; omega) hcv, ?_, fun _ => ⟨i, x, n, rfl, h2, h3, k0, k8, n1, n2, nf, rfl, rfl⟩⟩
      ·rw [hit]
       exact bm_ (by simp; omega) (by simp; omega)
      ·unfold gs_
       exact aa_ (bm_ (by simp; omega) (by simp; omega)) (aa_ (bm_ (by simp; omega) (by simp; omega)) rfl)
      ·show au_ (c.Calls_ ++ [⟨bD_ (n : Int) t, 65535⟩]) (bY_ c.Calls_ t) = some x
       rw [h1, dz_, List.getElem?_append_left hilt, h2]
      ·rw [hit]
       show some (ii_ c ((c.Calls_ ++ [(⟨bD_ (n : Int) t, 65535⟩ : api_Call)]).set i ⟨x.Req_, (n : Int)⟩), (n : Int), s, (0 : Int)) = _
       rw [List.set_append_left _ _ hilt]
      ·refine ⟨by show (c.Calls_.set i _ ++ [_]).length ≤ 1000; simp; omega, hg.fids, hg.part, fun y hy => ?_⟩
       rcases List.mem_append.1 (show y ∈ c.Calls_.set i ⟨x.Req_, (n : Int)⟩ ++ [⟨bD_ (n : Int) t, 65535⟩] from hy) with h5 | h5
       ·rcases nh_ hr.cv.nd h2 h5 with rfl | ⟨h6, _⟩
        ·exact hg.each x hx
        ·exact hg.each y h6
       ·rw [List.mem_singleton.1 h5]
        exact ⟨⟨Nat.zero_le _, Nat.zero_le _⟩, kI_ _ _⟩
def hL_ (c : api_Client) : api_Client := ⟨false, 0, c.Session_, c.Fids_, [], []⟩
def du_ (c : api_Client) : List api_Msg := c.Calls_.map fun x => dj_ x.Req_ 30
theorem le_ {c : api_Client} (h : SzC c) (hu : c.Up_ = true) : jZ_ c = some (hL_ c, du_ c) ∧ hx_ c = some (hL_ c, du_ c) := by
 have h1 := h.calls
 constructor
 ·unfold jZ_
  refine aa_ (own_eq h) (ab_ (by rw [hu]; rfl) (aa_ (n5_ (body := ix_ c) c.Calls_ (fun x => dj_ x.Req_ 30) (by omega) (fun i s hi hs => ?_) fun s => ?_) rfl))
  ·unfold ix_
   refine ac_ (by simp; omega) (aa_ (az_ hi) (aa_ (nf_ _ _) (aa_ (bm_ (by simp; omega) (by simp; omega)) ?_)))
   rw [cx_ (by omega)]
  ·unfold ix_
   exact ab_ (by simp) rfl
 ·unfold hx_
  refine ab_ (by rw [hu]; rfl) (aa_ (n5_ (body := gJ_ c) c.Calls_ (fun x => dj_ x.Req_ 30) (by omega) (fun i s hi hs => ?_) fun s => ?_) rfl)
  ·unfold gJ_
   refine ac_ (by simp; omega) (aa_ (az_ hi) (aa_ (pH_ _ _) (aa_ (bm_ (by simp; omega) (by simp; omega)) ?_)))
   rw [cx_ (by omega)]
  ·unfold gJ_
   exact ab_ (by simp) rfl
theorem spl_nil : bw_ [] 0 = some ([], [], 0) := cH_ (by simp) (.stop rfl)
theorem lose_rp {c : api_Client} (h : RP c) : RP (hL_ c) :=
 ⟨rfl, h.sess, h.fl, h.fids, Nat.zero_le _, .nil, decide_eq_true spl_nil, .inr ⟨rfl, rfl⟩⟩
theorem lose_g {c : api_Client} (h : G c) : G (hL_ c) := ⟨Nat.zero_le _, h.fids, Nat.zero_le _, (fun _ h => nomatch h)⟩
theorem same_self {c : api_Client} (h : SzC c) : jq_ c c = some true := by
 have hB : BIG = 18446744073709551616 := rfl
 have h1 := h.calls
 have h2 := h.fids
 have e : ∀ {α : Type} (l : List α), l.findSome? (fun _ => (none : Option Bool)) = none := by intro α l; simp
 unfold jq_
 refine ab_ (by simp) (aa_ (cd_ c.Fids_ (fun _ => none) (by omega) (fun i hi => ?_) ?_) ?_)
 ·unfold i1_
  refine ac_ (lt_t hi) (aa_ (az_ hi) (aa_ (az_ hi) (ab_ (by simp) ?_)))
  rw [cx_ (by omega)]
 ·unfold i1_
  exact ab_ (lt_f _) rfl
 ·rw [e]
  refine aa_ (cd_ c.Calls_ (fun _ => none) (by omega) (fun i hi => ?_) ?_) (by rw [e])
  ·unfold i2_
   have hz := h.each _ (List.getElem_mem hi)
   refine ac_ (lt_t hi) (aa_ (az_ hi) (aa_ (az_ hi) (aa_ (a := false) (ab_ (by simp) (aa_ (az_ hi) (aa_ (az_ hi) (aa_ (msg_same _ (by have := hz.1; omega) (by have := hz.2; omega)) rfl)))) (ab_ rfl ?_))))
   rw [cx_ (by omega)]
  ·unfold i2_
   exact ab_ (lt_f _) rfl
theorem rx_ {l : List api_Msg} (hl : l.length ≤ 1000000) (h : ∀ m ∈ l, m.Names_.length ≤ 9223372036854775807 ∧ m.Qids_.length ≤ 9223372036854775807) : gc_ l l = some true := by
 have hB : BIG = 18446744073709551616 := rfl
 have e : ∀ {α : Type} (l : List α), l.findSome? (fun _ => (none : Option Bool)) = none := by intro α l; simp
 unfold gc_
 refine ab_ (by simp) (aa_ (cd_ l (fun _ => none) (by omega) (fun i hi => ?_) ?_) (by rw [e]))
 ·unfold gj_
  have hm := h _ (List.getElem_mem hi)
  refine ac_ (lt_t hi) (aa_ (az_ hi) (aa_ (az_ hi) (aa_ (msg_same _ hm.1 hm.2) (ab_ rfl ?_))))
  rw [cx_ (by omega)]
 ·unfold gj_
  exact ab_ (lt_f _) rfl
end Go.Proofs.YtolgkhjkdadhiaaGreat
namespace Go.Proofs.YtolgkhjkdadhiaaGreat
open Go.Rt Go.RowKit
def ansB (x m : api_Msg) : Bool := (cg_ x m).getD false
theorem ans_eq (x m : api_Msg) : cg_ x m = some (ansB x m) ∧ fh_ x m = some (ansB x m) := by
 obtain ⟨b, h1, h2⟩ := answers_eq x m
 have : ansB x m = b := by unfold ansB; rw [h1]; rfl
 rw [this]; exact ⟨h1, h2⟩
theorem ans_flush {x m : api_Msg} (hk : x.Kind_ = 108) (h : ansB x m = true) : m.Kind_ = 107 ∨ m.Kind_ = 109 := by
 have he := (ans_eq x m).1
 rw [h] at he
 unfold cg_ ha_ at he
 rw [cS_, hk] at he
 have hr : cE_ 108 = true := l2_
 rw [hr] at he
 cases ht : x.Tag_ != m.Tag_ with
 | true => rw [ht] at he; cases he
 | false =>
  rw [ht] at he
  cases h7 : m.Kind_ == 107 with
  | true => exact .inl (by simpa using h7)
  | false =>
   rw [h7] at he
   have he : (bif m.Kind_ != w64 (108 + 1) then some false else _) = some true := he
   cases h9 : m.Kind_ != w64 (108 + 1) with
   | true => rw [h9] at he; cases he
   | false => exact .inr (by simpa [am_ (n := 109) ⟨by decide, by decide⟩] using h9)
def bP_ (m : api_Msg) : Bool := (m.Kind_ == 101) && (!(m.Version_ == [117, 110, 107, 110, 111, 119, 110]))
def badV (x m : api_Msg) : Bool := ((decide (m.Msize_ < 256)) || (decide (m.Msize_ > x.Msize_))) || (decide (m.Msize_ > 8192))
theorem verError_eq (x m : api_Msg) : eZ_ x m = some (bif bP_ m && badV x m then 19 else 0) := by
 unfold eZ_
 have e : ((m.Kind_ != 101) || (m.Version_ == [117, 110, 107, 110, 111, 119, 110])) = !(bP_ m) := by
  unfold bP_; rw [bne, Bool.not_and, Bool.not_not]
 rw [e]
 cases bP_ m with
 | false => rfl
 | true =>
  refine ab_ rfl ?_
  show (bif badV x m then _ else _) = _
  cases badV x m <;> rfl
def cA_ (l : List api_Call) (x m : api_Msg) : List api_Call × List api_Msg :=
 bif x.Kind_ == 108 then match l.find? (d0_ x.OldTag_) with
  | none => (l, [])
  | some z => bif m.Kind_ == 109 then (l.eraseIdx (bY_ l x.OldTag_).toNat, [dj_ z.Req_ 56]) else (l.set (bY_ l x.OldTag_).toNat ⟨z.Req_, 65535⟩, [])
 else (l, [])
abbrev TS := Int × Str × List api_Call × List api_Msg
def dv_ (ms : Int) (se : Str) (l : List api_Call) (m : api_Msg) : Int ⊕ TS :=
 match l.find? (d0_ m.Tag_) with
 | none => .inl 17
 | some x => bif !(ansB x.Req_ m) then .inl 2 else bif bP_ m && badV x.Req_ m then .inl 19 else
  .inr (bif bP_ m then m.Msize_ else ms, bif bP_ m then m.Session_ else se, (cA_ (l.eraseIdx (bY_ l m.Tag_).toNat) x.Req_ m).1, (cA_ (l.eraseIdx (bY_ l m.Tag_).toNat) x.Req_ m).2 ++ [m])
theorem take_err {ms : Int} {se : Str} {l : List api_Call} {m : api_Msg} {e : Int} (h : dv_ ms se l m = .inl e) : e ≠ 0 := by
 unfold dv_ at h
 split at h
 ·injection h with h; omega
 ·rename_i x _
  cases ha : ansB x.Req_ m with
  | false => rw [ha] at h; injection (show (Sum.inl 2 : Int ⊕ TS) = Sum.inl e from h) with h; omega
  | true =>
   cases hb : bP_ m && badV x.Req_ m with
   | true => rw [ha, hb] at h; injection (show (Sum.inl 19 : Int ⊕ TS) = Sum.inl e from h) with h; omega
   | false => rw [ha, hb] at h; cases h
theorem erase_td {α : Type} (l : List α) (i : Nat) : l.take i ++ l.drop (i + 1) = l.eraseIdx i := by rw [List.eraseIdx_eq_take_drop_succ]
theorem del_call {l : List api_Call} {i : Nat} (h : i < l.length) (hl : l.length ≤ 1000000) : delN (α := api_Call) l (i : Int) (w64 ((i : Int) + 1)) = some (l.eraseIdx i) := by
 rw [cx_ (by omega), delN_one h, erase_td]
theorem prog_body (p : List api_Msg × Str × Int) (e : Int) (i : Nat) (hi : i < p.1.length) (hil : i ≤ 1000000) (up : Bool) (ms : Int) (se part : Str) (fids : List Int) (l : List api_Call) (acc : List api_Msg) (hl : l.length ≤ 1000) (ha : acc.length ≤ 100000) :
  c9_ p (e, (i : Int), up, ms, se, part, fids, l, acc) = some (match dv_ ms se l p.1[i] with
   | .inl e' => .done (e', up, ms, se, part, fids, l, acc)
   | .inr t => .next (0, ((i + 1 : Nat) : Int), up, t.1, t.2.1, part, fids, t.2.2.1, acc ++ t.2.2.2)) := by
 unfold c9_
 refine ac_ (lt_t hi) (aa_ (az_ hi) ?_)
 generalize p.1[i] = m
 refine aa_ (ih_ (l := l) _ (by omega)) ?_
 unfold dv_
 rcases fb_ (l := l) m.Tag_ with ⟨h0, h1, _⟩ | ⟨k, x, h0, h1, h2, h3⟩
 ·rw [h0, h1]; rfl
 ·rw [h0, h1]
  dsimp only
  have hk := (List.getElem?_eq_some_iff.1 h2).1
  have g : au_ l (k : Int) = some x := by rw [dz_, h2]
  refine ab_ (by simp) (aa_ g (aa_ (ans_eq _ _).1 ?_))
  cases ha0 : ansB x.Req_ m with
  | false => rfl
  | true =>
   refine ab_ rfl (aa_ (verError_eq _ _) ?_)
   cases hv : bP_ m && badV x.Req_ m with
   | true => rfl
   | false =>
    refine ab_ rfl (aa_ g (aa_ (del_call hk (by omega)) ?_))
    show _ = some (Step.next (0, ((i + 1 : Nat) : Int), up, (bif bP_ m then m.Msize_ else ms), (bif bP_ m then m.Session_ else se), part, fids, (cA_ (l.eraseIdx k) x.Req_ m).1, acc ++ ((cA_ (l.eraseIdx k) x.Req_ m).2 ++ [m])))
    have hle : (l.eraseIdx k).length ≤ l.length := (List.eraseIdx_sublist l k).length_le
    generalize l.eraseIdx k = l1 at hle
    refine aa_ (a := (up, (bif bP_ m then m.Msize_ else ms), (bif bP_ m then m.Session_ else se), part, fids, l1, acc)) ?_ ?_
    ·show (bif bP_ m then _ else _) = _
     cases bP_ m <;> rfl
    refine aa_ (a := (up, (bif bP_ m then m.Msize_ else ms), (bif bP_ m then m.Session_ else se), part, fids, (cA_ l1 x.Req_ m).1, acc ++ (cA_ l1 x.Req_ m).2)) ?_ ?_
    ·unfold cA_
     cases hk8 : x.Req_.Kind_ == 108 with
     | false => rw [cond_false, cond_false, List.append_nil]
     | true =>
      rw [cond_true, cond_true]
      refine aa_ (ih_ (l := l1) _ (by omega)) ?_
      rcases fb_ (l := l1) x.Req_.OldTag_ with ⟨q0, q1, _⟩ | ⟨j, z, q0, q1, q2, _⟩
      ·rw [q0, q1]
       exact ab_ rfl (by rw [List.append_nil])
      ·rw [q0, q1]
       have hj := (List.getElem?_eq_some_iff.1 q2).1
       have gj : au_ l1 (j : Int) = some z := by rw [dz_, q2]
       refine ac_ (by simp) ?_
       have hd := del_call hj (by omega)
       have hr : bF_ 424 acc [dj_ z.Req_ 56] = some (acc ++ [dj_ z.Req_ 56]) := bm_ (by simp; omega) (by simp; omega)
       cases hk9 : m.Kind_ == 109 with
       | true =>
        rw [cond_true]
        refine Eq.trans (congr (congrArg both (?_ : _ = some (up, (bif bP_ m then m.Msize_ else ms), (bif bP_ m then m.Session_ else se), part, fids, l1.eraseIdx j, acc ++ [dj_ z.Req_ 56]))) ?_) (kf_ _)
        ·exact aa_ gj (aa_ hd (aa_ (nf_ _ _) (aa_ hr rfl)))
        ·refine aa_ gj (aa_ hd ?_)
         refine Eq.trans (congr (congrArg both (aa_ (nf_ _ _) (aa_ hr rfl))) (aa_ (nf_ _ _) (Eq.trans (congr (congrArg both (aa_ hr rfl)) (aa_ hr rfl)) (kf_ _)))) (kf_ _)
       | false =>
        refine ab_ rfl (aa_ gj ?_)
        simp
    ·have hlo : (cA_ l1 x.Req_ m).2.length ≤ 1 := by
      unfold cA_
      cases x.Req_.Kind_ == 108 with
      | false => exact Nat.zero_le _
      | true =>
       rw [cond_true]
       cases l1.find? (d0_ x.Req_.OldTag_) with
       | none => exact Nat.zero_le _
       | some z => cases m.Kind_ == 109 <;> simp
     refine aa_ (a := acc ++ ((cA_ l1 x.Req_ m).2 ++ [m])) ?_ ?_
     ·rw [bm_ (by simp; omega) (by simp; omega), List.append_assoc]
     ·refine ab_ rfl ?_
      rw [cx_ (by omega)]
theorem prog_end (p : List api_Msg × Str × Int) (e : Int) (up : Bool) (ms : Int) (se part : Str) (fids : List Int) (l : List api_Call) (acc : List api_Msg) : c9_ p (e, (p.1.length : Int), up, ms, se, part, fids, l, acc) = some (.done (e, up, ms, se, part, fids, l, acc)) := by
 unfold c9_
 exact ab_ (lt_f _) rfl
theorem mP_ {l : List api_Call} {i : Nat} (h : i < l.length) (hl : l.length ≤ 1000) : fi_ l (i : Int) = some (l.eraseIdx i) := by
 unfold fi_
 refine aa_ (gd_ (by omega) (by omega) (by omega)) (aa_ (bm_ (by simp; omega) (by simp; omega)) ?_)
 rw [cx_ (by omega)]
 refine aa_ (gd_ (by omega) (by omega) (by omega)) (aa_ (a := l.eraseIdx i) ?_ rfl)
 rw [bm_ (by simp; omega) (by simp; omega), ← erase_td]
 simp
theorem take_eq (c : api_Client) (m : api_Msg) (hl : c.Calls_.length ≤ 1000) : js_ c m = some (match dv_ c.Msize_ c.Session_ c.Calls_ m with
   | .inl e => (c, [], e)
   | .inr t => (⟨c.Up_, t.1, t.2.1, c.Fids_, t.2.2.1, c.Partial_⟩, t.2.2.2, 0)) := by
 unfold js_
 refine aa_ (ci_ _ (by omega)) ?_
 unfold dv_
 rcases fb_ (l := c.Calls_) m.Tag_ with ⟨h0, h1, _⟩ | ⟨k, x, h0, h1, h2, h3⟩
 ·rw [h0, h1]; rfl
 ·rw [h0, h1]
  dsimp only
  have hk := (List.getElem?_eq_some_iff.1 h2).1
  have g : au_ c.Calls_ (k : Int) = some x := by rw [dz_, h2]
  refine ab_ (by simp) (aa_ g (aa_ (ans_eq _ _).2 ?_))
  cases ha0 : ansB x.Req_ m with
  | false => rfl
  | true =>
   refine ab_ rfl ?_
   show Option.bind (bif bP_ m then (bif badV x.Req_ m then some (Out.ret (c, ([] : List api_Msg), (19 : Int))) else some (Out.fall (api_Client.mk c.Up_ m.Msize_ m.Session_ c.Fids_ c.Calls_ c.Partial_))) else some (Out.fall c)) _ = _
   cases hv : bP_ m && badV x.Req_ m with
   | true =>
    rw [Bool.and_eq_true] at hv
    rw [hv.1, hv.2]; rfl
   | false =>
    refine aa_ (a := .fall ⟨c.Up_, bif bP_ m then m.Msize_ else c.Msize_, bif bP_ m then m.Session_ else c.Session_, c.Fids_, c.Calls_, c.Partial_⟩) ?_ ?_
    ·cases hn : bP_ m with
     | false => rfl
     | true => rw [hn, Bool.true_and] at hv; rw [hv]; rfl
    ·show Option.bind (fi_ c.Calls_ (k : Int)) _ = some ((⟨c.Up_, bif bP_ m then m.Msize_ else c.Msize_, bif bP_ m then m.Session_ else c.Session_, c.Fids_, (cA_ (c.Calls_.eraseIdx k) x.Req_ m).1, c.Partial_⟩ : api_Client), (cA_ (c.Calls_.eraseIdx k) x.Req_ m).2 ++ [m], (0 : Int))
     refine aa_ (mP_ hk hl) ?_
     have hle : (c.Calls_.eraseIdx k).length ≤ c.Calls_.length := (List.eraseIdx_sublist c.Calls_ k).length_le
     generalize c.Calls_.eraseIdx k = l1 at hle
     have r1 : ∀ a : api_Msg, bF_ 424 ([] : List api_Msg) [a] = some [a] := fun a => bm_ (by simp) (by simp)
     have r2 : ∀ a b : api_Msg, bF_ 424 [a] [b] = some [a, b] := fun a b => bm_ (by simp) (by simp)
     unfold cA_
     cases hk8 : x.Req_.Kind_ == 108 with
     | false =>
      refine aa_ (a := -1) rfl (aa_ (ab_ rfl rfl) (aa_ (ab_ rfl rfl) (aa_ (r1 m) rfl)))
     | true =>
      have hf := ans_flush (by simpa using hk8) ha0
      refine aa_ (aa_ (ci_ _ (by omega)) rfl) ?_
      rw [cond_true]
      rcases fb_ (l := l1) x.Req_.OldTag_ with ⟨q0, q1, _⟩ | ⟨j, z, q0, q1, q2, _⟩
      ·rw [q0, q1]
       exact aa_ (ab_ rfl rfl) (aa_ (ab_ rfl rfl) (aa_ (r1 m) rfl))
      ·rw [q0, q1]
       have hj := (List.getElem?_eq_some_iff.1 q2).1
       have gj : au_ l1 (j : Int) = some z := by rw [dz_, q2]
       have e1 : decide ((j : Int) ≥ 0) = true := by simp
       rcases hf with hm | hm
       ·rw [hm, e1]
        refine aa_ (ab_ rfl rfl) (aa_ (ac_ rfl (aa_ gj rfl)) (aa_ (r1 m) rfl))
       ·rw [hm, e1]
        refine aa_ (ac_ rfl (aa_ gj (aa_ (pH_ _ _) (aa_ (r1 _) (aa_ (mP_ hj (by omega)) rfl))))) (aa_ (ab_ rfl rfl) (aa_ (r2 _ m) rfl))
theorem msB_new {x m : api_Msg} (h : badV x m = false) : 256 ≤ m.Msize_ ∧ m.Msize_ ≤ 8192 := by
 unfold badV at h
 simp only [Bool.or_eq_false_iff, decide_eq_false_iff_not] at h
 omega
def msOK (n : Int) : Prop := n = 0 ∨ (256 ≤ n ∧ n ≤ 8192)
theorem msB_iff (c : api_Client) : msB c = true ↔ msOK c.Msize_ := by
 unfold msB msOK
 by_cases h0 : c.Msize_ = 0
 ·simp [h0]
 ·have : (c.Msize_ != 0) = true := by simpa using h0
  rw [this, Bool.true_and, Bool.not_eq_true', Bool.or_eq_false_iff]
  simp only [decide_eq_false_iff_not]
  omega
theorem take_keeps {ms : Int} {se : Str} {l : List api_Call} {m : api_Msg} {t : TS} (h : dv_ ms se l m = .inr t) (hc : CV l) (hms : msOK ms) (hse : se.length ≤ 64) (hm : bP_ m = true → m.Session_.length ≤ 64) :
  CV t.2.2.1 ∧ msOK t.1 ∧ t.2.1.length ≤ 64 ∧ t.2.2.1.length + t.2.2.2.length = l.length ∧ (∀ y ∈ t.2.2.1, ∃ y0 ∈ l, y0.Req_ = y.Req_) ∧ (∀ o ∈ t.2.2.2, o = m ∨ ∃ z n, o = dj_ z n) := by
 unfold dv_ at h
 rcases fb_ (l := l) m.Tag_ with ⟨h0, h1, _⟩ | ⟨k, x, h0, h1, h2, h3⟩
 ·rw [h0] at h; cases h
 ·rw [h0, h1] at h
  have hk := (List.getElem?_eq_some_iff.1 h2).1
  simp only at h
  cases ha0 : ansB x.Req_ m with
  | false => rw [ha0] at h; cases h
  | true =>
   cases hv : bP_ m && badV x.Req_ m with
   | true => rw [ha0, hv] at h; cases h
   | false =>
    rw [ha0, hv] at h
    have h : Sum.inr ((bif bP_ m then m.Msize_ else ms), (bif bP_ m then m.Session_ else se), (cA_ (l.eraseIdx k) x.Req_ m).1, (cA_ (l.eraseIdx k) x.Req_ m).2 ++ [m]) = (Sum.inr t : Int ⊕ TS) := h
    injection h with h
    subst h
    have hms' : msOK (bif bP_ m then m.Msize_ else ms) := by
     cases hn : bP_ m with
     | false => exact hms
     | true => rw [hn, Bool.true_and] at hv; exact .inr (msB_new hv)
    have hse' : (bif bP_ m then m.Session_ else se).length ≤ 64 := by
     cases hn : bP_ m with
     | false => exact hse
     | true => exact hm hn
    have hlen : (l.eraseIdx k).length + 1 = l.length := by
     rw [List.length_eraseIdx, if_pos hk]; omega
    have hsub : ∀ y ∈ l.eraseIdx k, y ∈ l := fun y hy => (List.eraseIdx_sublist l k).subset hy
    suffices hq : CV (cA_ (l.eraseIdx k) x.Req_ m).1 ∧ (cA_ (l.eraseIdx k) x.Req_ m).1.length + (cA_ (l.eraseIdx k) x.Req_ m).2.length = (l.eraseIdx k).length ∧ (∀ y ∈ (cA_ (l.eraseIdx k) x.Req_ m).1, ∃ y0 ∈ l, y0.Req_ = y.Req_) ∧ (∀ o ∈ (cA_ (l.eraseIdx k) x.Req_ m).2, ∃ z n, o = dj_ z n) by
     refine ⟨hq.1, hms', hse', ?_, hq.2.2.1, fun o ho => ?_⟩
     ·have := hq.2.1
      simp only [List.length_append, List.length_singleton]
      omega
     ·rcases List.mem_append.1 ho with h5 | h5
      ·exact .inr (hq.2.2.2 o h5)
      ·exact .inl (by simpa using h5)
    unfold cA_
    cases hk8 : x.Req_.Kind_ == 108 with
    | false =>
     have : x.Req_.Kind_ ≠ 108 := by simpa using hk8
     exact ⟨hc.drop h2 this, rfl, fun y hy => ⟨y, hsub y hy, rfl⟩, (fun _ h => nomatch h)⟩
    | true =>
     have hkx : x.Req_.Kind_ = 108 := by simpa using hk8
     rw [cond_true]
     rcases fb_ (l := l.eraseIdx k) x.Req_.OldTag_ with ⟨q0, q1, q2⟩ | ⟨j, z, q0, q1, q2, q3⟩
     ·rw [q0]
      exact ⟨hc.dropF h2 q2, rfl, fun y hy => ⟨y, hsub y hy, rfl⟩, (fun _ h => nomatch h)⟩
     ·rw [q0, q1]
      have hj := (List.getElem?_eq_some_iff.1 q2).1
      show CV (bif m.Kind_ == 109 then ((l.eraseIdx k).eraseIdx j, [dj_ z.Req_ 56]) else ((l.eraseIdx k).set j ⟨z.Req_, 65535⟩, [])).1 ∧ _
      cases m.Kind_ == 109 with
      | true =>
       refine ⟨hc.drop2 h2 hkx q2 q3, ?_, fun y hy => ⟨y, hsub y ((List.eraseIdx_sublist _ j).subset hy), rfl⟩, fun o ho => ⟨z.Req_, 56, by simpa using ho⟩⟩
       show ((l.eraseIdx k).eraseIdx j).length + 1 = _
       rw [List.length_eraseIdx, if_pos hj]; omega
      | false =>
       refine ⟨hc.dropE h2 hkx q2 q3, ?_, fun y hy => ?_, (fun _ h => nomatch h)⟩
       ·show ((l.eraseIdx k).set j _).length + 0 = _
        simp
       ·have hnd : ((l.eraseIdx k).map fun x => x.Req_.Tag_).Nodup := hc.nd.sublist ((List.eraseIdx_sublist l k).map _)
        rcases nh_ hnd q2 hy with rfl | ⟨h6, _⟩
        ·exact ⟨z, hsub z (List.mem_of_getElem? q2), rfl⟩
        ·exact ⟨y, hsub y h6, rfl⟩
end Go.Proofs.YtolgkhjkdadhiaaGreat
namespace Go.Proofs.YtolgkhjkdadhiaaGreat
open Go.Rt Go.RowKit
theorem chk_session {m : api_Msg} (h : aX_ m = some 0) (hk : m.Kind_ = 101) : m.Session_.length ≤ 64 := by
 unfold aX_ at h
 obtain ⟨nm, e1⟩ := Option.get_some (eR_ m.Kind_)
 rw [e1, Option.bind_some] at h
 cases hn : (nm == []) with
 | true => rw [hn] at h; cases h
 | false =>
  rw [hn, cond_false] at h
  obtain ⟨g, e2⟩ := Option.get_some (iB_ m)
  rw [e2, Option.bind_some] at h
  cases g with
  | false => cases h
  | true =>
   rw [Bool.not_true, cond_false] at h
   cases ho : fQ_ m with
   | none => rw [ho] at h; cases h
   | some y =>
    rw [ho, Option.bind_some] at h
    cases hs : jV_ y m with
    | none => rw [hs] at h; cases h
    | some b =>
     rw [hs, Option.bind_some] at h
     cases b with
     | false => cases h
     | true =>
      rw [Bool.not_true, cond_false] at h
      have hf : ad_ m = some (bJ_ [inR m.Msize_ 0 4294967295, aT_ m.Version_ 64, aT_ m.Session_ 64]) := by
       unfold ad_
       rw [hk]
       exact aa_ (a := true) rfl (ac_ rfl (aa_ (bK_ _ _ _) (aa_ (aM_ _ _) (aa_ (aM_ _ _) (aa_ (aj_ _ (by simp)) rfl)))))
      rw [hf] at h
      have h0 : bJ_ [inR m.Msize_ 0 4294967295, aT_ m.Version_ 64, aT_ m.Session_ 64] = 0 := Option.some.inj h
      have := cw_ (ao_ h0 (aT_ m.Session_ 64) (by simp))
      omega
structure MOK (m : api_Msg) : Prop where
 names : m.Names_.length ≤ 9223372036854775807
 qids : m.Qids_.length ≤ 9223372036854775807
 chk : aX_ m = some 0
theorem MOK.session {m : api_Msg} (h : MOK m) (hv : bP_ m = true) : m.Session_.length ≤ 64 := by
 unfold bP_ at hv
 rw [Bool.and_eq_true] at hv
 exact chk_session h.chk (by simpa using hv.1)
theorem one_mok {o : Int} {x : Str} {m : api_Msg} {z : Nat} (hs : x.length ≤ 1000000) (h : one o x = .got m z) : MOK m := by
 obtain ⟨_, _, hm, hg, _⟩ := jE_ hs h
 obtain ⟨m', n, e, h1, h2⟩ := nd_ x 0 hs
 rw [hg] at h1
 simp only [Option.some.injEq, Prod.mk.injEq] at h1
 obtain ⟨rfl, _, rfl⟩ := h1
 rcases h2 with ⟨h2, _⟩ | ⟨_, A, z', _, _, _, _, hgd⟩
 ·exact absurd rfl h2
 ·exact ⟨hm.1, hm.2.2.1, hgd.2.1⟩
theorem Spl.mok {o : Int} {x : Str} {ms : List api_Msg} {r : Str} (h : Spl o x ms r) : x.length ≤ 1000000 → (∀ m ∈ ms, MOK m) ∧ one o r = .stop ∧ r.length ≤ x.length := by
 induction h with
 | stop h => exact fun _ => ⟨(fun _ h => nomatch h), h, Nat.le_refl _⟩
 | got h1 _ ih =>
  intro hs
  obtain ⟨i1, i2, i3⟩ := ih (by simp; omega)
  simp only [List.length_drop] at i3
  refine ⟨fun m hm => ?_, i2, by omega⟩
  cases hm with
  | head => exact one_mok hs h1
  | tail _ hm => exact i1 m hm
theorem rest_split {o : Int} {r : Str} (h : one o r = .stop) (hs : r.length ≤ 1000000) (n : Int) : bw_ r n = some ([], r, 0) ∨ ∃ e, bw_ r n = some ([], [], e) ∧ e ≠ 0 := by
 have h2 : one (dN_ n) r = .stop ∨ ∃ e, one (dN_ n) r = .bad e := by
  unfold one at h ⊢
  by_cases h4 : r.length < 4
  ·rw [if_pos h4]; exact .inl rfl
  ·rw [if_neg h4] at h ⊢
   by_cases h7 : (leV (win r 0 4) : Int) > dN_ n ∨ leV (win r 0 4) < 7
   ·rw [if_pos h7]; exact .inr ⟨_, rfl⟩
   ·rw [if_neg h7]
    by_cases h8 : (leV (win r 0 4) : Int) > o ∨ leV (win r 0 4) < 7
    ·rw [if_pos h8] at h; cases h
    ·rw [if_neg h8] at h
     by_cases h9 : r.length < leV (win r 0 4)
     ·rw [if_pos h9]; exact .inl rfl
     ·rw [if_neg h9] at h ⊢
      cases hg : bS_ r 0 with
      | none => exact .inl rfl
      | some q =>
       obtain ⟨m, k, e⟩ := q
       rw [hg] at h
       simp only at h
       by_cases he : e = 0
       ·rw [if_pos he] at h; cases h
       ·rw [if_neg he] at h; cases h
 rcases h2 with h2 | ⟨e, h2⟩
 ·exact .inl (cH_ hs (.stop h2))
 ·rcases kE_ r n hs with ⟨ms, r', h3⟩ | h3
  ·cases h3 with
   | stop h4 => rw [h2] at h4; cases h4
   | got h4 _ => rw [h2] at h4; cases h4
  ·exact .inr h3
theorem limR_le (n : Int) : dN_ n ≤ 8192 := by unfold dN_; split <;> omega
theorem stop_len {o : Int} {r : Str} (ho : o ≤ 8192) (h : one o r = .stop) (hs : r.length ≤ 1000000) : r.length ≤ 8192 := by
 unfold one at h
 by_cases h4 : r.length < 4
 ·omega
 ·rw [if_neg h4] at h
  by_cases h7 : (leV (win r 0 4) : Int) > o ∨ leV (win r 0 4) < 7
  ·rw [if_pos h7] at h; cases h
  ·rw [if_neg h7] at h
   by_cases h9 : r.length < leV (win r 0 4)
   ·omega
   ·rw [if_neg h9] at h
    obtain ⟨m, n, e, h1, _⟩ := nd_ r 0 hs
    rw [h1] at h
    simp only at h
    by_cases he : e = 0
    ·rw [if_pos he] at h; cases h
    ·rw [if_neg he] at h; cases h
theorem spl_stop {x : Str} {n : Int} (hs : x.length ≤ 1000000) (h : bw_ x n = some ([], x, 0)) : one (dN_ n) x = .stop := by
 rcases kE_ x n hs with ⟨ms, r, h3⟩ | ⟨e, h3, h4⟩
 ·have h5 := cH_ hs h3
  rw [h] at h5
  simp only [Option.some.injEq, Prod.mk.injEq] at h5
  obtain ⟨rfl, rfl, _⟩ := h5
  cases h3 with
  | stop h6 => exact h6
 ·rw [h] at h3
  simp only [Option.some.injEq, Prod.mk.injEq] at h3
  exact absurd h3.2.2.symm h4
theorem RP.stop {c : api_Client} (h : RP c) (hg : G c) : one (dN_ c.Msize_) c.Partial_ = .stop := spl_stop (by have := hg.part; omega) (of_decide_eq_true h.spl)
theorem RP.part {c : api_Client} (h : RP c) (hg : G c) : c.Partial_.length ≤ 8192 := stop_len (limR_le _) (h.stop hg) (by have := hg.part; omega)
def b1_ : List api_Msg → TS → Int × TS
 | [], t => (0, t)
 | m :: ms, t => match dv_ t.1 t.2.1 t.2.2.1 m with
  | .inl e => (e, t)
  | .inr u => b1_ ms (u.1, u.2.1, u.2.2.1, t.2.2.2 ++ u.2.2.2)
structure TI (n : Nat) (l0 : List api_Call) (t : TS) : Prop where
 cv : CV t.2.2.1
 ms : msOK t.1
 se : t.2.1.length ≤ 64
 len : t.2.2.2.length + t.2.2.1.length = n
 from_ : ∀ y ∈ t.2.2.1, ∃ y0 ∈ l0, y0.Req_ = y.Req_
 out : ∀ o ∈ t.2.2.2, o.Names_.length ≤ 9223372036854775807 ∧ o.Qids_.length ≤ 9223372036854775807
theorem TI.next {n : Nat} {l0 : List api_Call} {t u : TS} (h : TI n l0 t) {m : api_Msg} (hm : MOK m) (hu : dv_ t.1 t.2.1 t.2.2.1 m = .inr u) : TI n l0 (u.1, u.2.1, u.2.2.1, t.2.2.2 ++ u.2.2.2) := by
 obtain ⟨a, b, c, d, e, f⟩ := take_keeps hu h.cv h.ms h.se hm.session
 refine ⟨a, b, c, ?_, fun y hy => ?_, fun o ho => ?_⟩
 ·have := h.len
  simp only [List.length_append]
  omega
 ·obtain ⟨y1, h1, h2⟩ := e y hy
  obtain ⟨y0, h3, h4⟩ := h.from_ y1 h1
  exact ⟨y0, h3, h4.trans h2⟩
 ·rcases List.mem_append.1 ho with h1 | h1
  ·exact h.out o h1
  ·rcases f o h1 with rfl | ⟨z, k, rfl⟩
   ·exact ⟨hm.names, hm.qids⟩
   ·exact ⟨Nat.zero_le _, Nat.zero_le _⟩
theorem run_keeps {n : Nat} {l0 : List api_Call} : ∀ {ms : List api_Msg} {t : TS}, TI n l0 t → (∀ m ∈ ms, MOK m) → TI n l0 (b1_ ms t).2
 | [], _, h, _ => h
 | m :: ms, t, h, hm => by
  simp only [b1_]
  cases hu : dv_ t.1 t.2.1 t.2.2.1 m with
  | inl e => exact h
  | inr u => exact run_keeps (h.next (hm m (by simp)) hu) fun m' hm' => hm m' (by simp [hm'])
theorem runS_app (ms' : List api_Msg) (t1 : TS) : ∀ (ms : List api_Msg) (t : TS), b1_ ms t = (0, t1) → b1_ (ms ++ ms') t = b1_ ms' t1
 | [], t, h => by
  obtain rfl : t = t1 := (Prod.mk.inj h).2
  rfl
 | m :: ms, t, h => by
  simp only [List.cons_append, b1_] at h ⊢
  cases hu : dv_ t.1 t.2.1 t.2.2.1 m with
  | inl e =>
   rw [hu] at h
   exact absurd (Prod.mk.inj h).1 (take_err hu)
  | inr u =>
   rw [hu] at h
   exact runS_app ms' t1 ms _ h
theorem prog_loop (p : List api_Msg × Str × Int) (hp : p.1.length ≤ 100000) (hm : ∀ m ∈ p.1, MOK m) (up : Bool) (part : Str) (fids : List Int) (n : Nat) (hn : n ≤ 1000) (l0 : List api_Call) : ∀ (k fuel i : Nat) (t : TS), i + k = p.1.length → k < fuel → TI n l0 t →
  an_ (c9_ p) fuel (0, (i : Int), up, t.1, t.2.1, part, fids, t.2.2.1, t.2.2.2) = some ((b1_ (p.1.drop i) t).1, up, (b1_ (p.1.drop i) t).2.1, (b1_ (p.1.drop i) t).2.2.1, part, fids, (b1_ (p.1.drop i) t).2.2.2.1, (b1_ (p.1.drop i) t).2.2.2.2) := by
 intro k
 induction k with
 | zero =>
  intro fuel i t hi hk _
  obtain ⟨f, rfl⟩ : ∃ f, fuel = f + 1 := ⟨fuel - 1, by omega⟩
  obtain rfl : i = p.1.length := by omega
  rw [List.drop_length]
  exact ar_ (prog_end ..)
 | succ k ih =>
  intro fuel i t hi hk ht
  obtain ⟨f, rfl⟩ : ∃ f, fuel = f + 1 := ⟨fuel - 1, by omega⟩
  have hlt : i < p.1.length := by omega
  have hlen := ht.len
  have hb := prog_body p 0 i hlt (by omega) up t.1 t.2.1 part fids t.2.2.1 t.2.2.2 (by omega) (by omega)
  rw [List.drop_eq_getElem_cons hlt]
  simp only [b1_]
  cases hu : dv_ t.1 t.2.1 t.2.2.1 p.1[i] with
  | inl e => rw [hu] at hb; exact ar_ hb
  | inr u =>
   rw [hu] at hb
   exact ay_ hb (ih f (i + 1) (u.1, u.2.1, u.2.2.1, t.2.2.2 ++ u.2.2.2) (by omega) (by omega) (ht.next (hm _ (List.getElem_mem hlt)) hu))
def cliT (c : api_Client) (t : TS) : api_Client := ⟨c.Up_, t.1, t.2.1, c.Fids_, t.2.2.1, c.Partial_⟩
def outR (c : api_Client) (r : Int × TS) : Out (api_Client × List api_Msg) (api_Client × List api_Msg × Int) := if r.1 = 0 then .fall (cliT c r.2, r.2.2.2.2) else .ret (hL_ (cliT c r.2), r.2.2.2.2 ++ du_ (cliT c r.2), r.1)
theorem refrecv_loop (c : api_Client) (hu : c.Up_ = true) (hf : c.Fids_.length ≤ 1000) (hz : ∀ x ∈ c.Calls_, Sz x.Req_) (ms : List api_Msg) (hp : ms.length ≤ 100000) (hm : ∀ m ∈ ms, MOK m) (n : Nat) (hn : n ≤ 1000) : ∀ (k fuel i : Nat) (t : TS), i + k = ms.length → k < fuel → TI n c.Calls_ t →
  an_ da_ fuel ((i : Int), cliT c t, ms, t.2.2.2) = some (outR c (b1_ (ms.drop i) t)) := by
 intro k
 induction k with
 | zero =>
  intro fuel i t hi hk _
  obtain ⟨f, rfl⟩ : ∃ f, fuel = f + 1 := ⟨fuel - 1, by omega⟩
  obtain rfl : i = ms.length := by omega
  rw [List.drop_length]
  refine ar_ ?_
  unfold da_
  exact ab_ (lt_f _) rfl
 | succ k ih =>
  intro fuel i t hi hk ht
  obtain ⟨f, rfl⟩ : ∃ f, fuel = f + 1 := ⟨fuel - 1, by omega⟩
  have hlt : i < ms.length := by omega
  have hlen := ht.len
  have hb := take_eq (cliT c t) ms[i] (by show t.2.2.1.length ≤ 1000; omega)
  rw [List.drop_eq_getElem_cons hlt]
  simp only [b1_]
  have hb : js_ (cliT c t) ms[i] = some (match dv_ t.1 t.2.1 t.2.2.1 ms[i] with
   | .inl e => (cliT c t, [], e)
   | .inr u => (⟨c.Up_, u.1, u.2.1, c.Fids_, u.2.2.1, c.Partial_⟩, u.2.2.2, 0)) := hb
  cases hw : dv_ t.1 t.2.1 t.2.2.1 ms[i] with
  | inl e =>
   rw [hw] at hb
   have he := take_err hw
   have hsz : SzC (cliT c t) := ⟨by show t.2.2.1.length ≤ 1000; omega, hf, fun x hx => by
    obtain ⟨y0, h1, h2⟩ := ht.from_ x hx
    rw [← h2]; exact hz y0 h1⟩
   refine ar_ ?_
   unfold da_
   have hll : (du_ (cliT c t)).length = t.2.2.1.length := by unfold du_; rw [List.length_map]; rfl
   refine ac_ (lt_t hlt) (aa_ (az_ hlt) (aa_ hb (ac_ (by simpa using he) (aa_ (le_ hsz hu).2 (aa_ (bm_ (by show t.2.2.2.length + (du_ (cliT c t)).length ≤ _; omega) (by show (t.2.2.2.length + (du_ (cliT c t)).length) * 424 ≤ _; omega)) ?_)))))
   unfold outR
   rw [if_neg he]
  | inr u =>
   rw [hw] at hb
   have ht' := ht.next (hm _ (List.getElem_mem hlt)) hw
   have hl' := ht'.len
   simp only [List.length_append] at hl'
   refine ay_ ?_ (ih f (i + 1) (u.1, u.2.1, u.2.2.1, t.2.2.2 ++ u.2.2.2) (by omega) (by omega) ht')
   unfold da_
   refine ac_ (lt_t hlt) (aa_ (az_ hlt) (aa_ hb (ab_ rfl (aa_ (bm_ (by show t.2.2.2.length + u.2.2.2.length ≤ _; omega) (by show (t.2.2.2.length + u.2.2.2.length) * 424 ≤ _; omega)) ?_))))
   rw [cx_ (by omega)]; rfl
theorem failM_small (z : api_Msg) (n : Int) : (dj_ z n).Names_.length ≤ 9223372036854775807 ∧ (dj_ z n).Qids_.length ≤ 9223372036854775807 := ⟨Nat.zero_le _, Nat.zero_le _⟩
theorem pP_ {c : api_Client} : ∀ m ∈ du_ c, m.Names_.length ≤ 9223372036854775807 ∧ m.Qids_.length ≤ 9223372036854775807 := fun m hm => by
 obtain ⟨x, _, rfl⟩ := List.mem_map.1 hm
 exact failM_small _ _
structure Rcv (c : api_Client) (s : Str) (v : api_Client × List api_Msg × Int) (ms : List api_Msg) (rest : Str) (t : TS) : Prop where
 up : c.Up_ = true
 spl : Spl (dN_ c.Msize_) (c.Partial_ ++ s) ms rest
 run : b1_ ms (c.Msize_, c.Session_, c.Calls_, []) = (0, t)
 again : bw_ rest t.1 = some ([], rest, 0)
 res : v = (⟨c.Up_, t.1, t.2.1, c.Fids_, t.2.2.1, rest⟩, t.2.2.2, 0)
set_option maxHeartbeats 1600000 in
theorem d1_ {c : api_Client} {s : Str} (hg : G c) (hr : RP c) (hs : s.length ≤ 20000) : ∃ v, ct_ c s = some v ∧ gK_ c s = some v ∧ RP v.1 ∧ G v.1 ∧ v.2.1.length + v.1.Calls_.length = c.Calls_.length ∧ (∀ m ∈ v.2.1, m.Names_.length ≤ 9223372036854775807 ∧ m.Qids_.length ≤ 9223372036854775807) ∧
  (v.2.2 = 0 → ∃ ms rest t, Rcv c s v ms rest t) ∧ ((∃ ms rest t, Rcv c s v ms rest t) ∨ v.2.2 ≠ 0) ∧
  (∀ ms rest t e, c.Up_ = true → Spl (dN_ c.Msize_) (c.Partial_ ++ s) ms rest → b1_ ms (c.Msize_, c.Session_, c.Calls_, []) = (e, t) → e ≠ 0 → v.2.2 = e ∧ v.1.Up_ = false) ∧
  (∀ ms rest t, c.Up_ = true → Spl (dN_ c.Msize_) (c.Partial_ ++ s) ms rest → b1_ ms (c.Msize_, c.Session_, c.Calls_, []) = (0, t) → bw_ rest t.1 = some ([], rest, 0) → v.2.2 = 0) := by
 have hB : BIG = 18446744073709551616 := rfl
 have ho := own_eq hg.szc
 have hp := hr.part hg
 have hcl := hg.calls
 unfold ct_ gK_
 cases hu : c.Up_ with
 | false =>
  refine ⟨(c, [], 30), aa_ ho (ac_ rfl rfl), ac_ rfl rfl, hr, hg, Nat.zero_add _, (fun _ h => nomatch h), fun h => absurd (show (30 : Int) = 0 from h) (by decide), .inr (by show (30 : Int) ≠ 0; decide), (fun _ _ _ _ h => nomatch h), fun _ _ _ h => nomatch h⟩
 | true =>
  have hcat : cat c.Partial_ s = some (c.Partial_ ++ s) := c4_ (by omega)
  have hxl : (c.Partial_ ++ s).length ≤ 1000000 := by rw [List.length_append]; omega
  rcases kE_ (c.Partial_ ++ s) c.Msize_ hxl with ⟨ms, rest, hsp⟩ | ⟨e, he, hne⟩
  ·have hsplit := cH_ hxl hsp
   have hsplit2 := (hH_ _ c.Msize_ hxl).trans hsplit
   obtain ⟨hmok, hstop, hrl⟩ := hsp.mok hxl
   obtain ⟨hml, _⟩ := hsp.len hxl
   have hti : TI c.Calls_.length c.Calls_ (c.Msize_, c.Session_, c.Calls_, []) := ⟨hr.cv, (msB_iff c).1 hr.ms, hr.sess, Nat.zero_add _, fun y hy => ⟨y, hy, rfl⟩, (fun _ h => nomatch h)⟩
   have hl1 := prog_loop (ms, rest, 0) (by show ms.length ≤ 100000; rw [List.length_append] at hml; omega) hmok true rest c.Fids_ c.Calls_.length hcl c.Calls_ ms.length BIG 0 (c.Msize_, c.Session_, c.Calls_, []) (by show 0 + ms.length = ms.length; omega) (by rw [List.length_append] at hml; omega) hti
   have hl2 := refrecv_loop c hu hg.fids hg.szc.each ms (by rw [List.length_append] at hml; omega) hmok c.Calls_.length hcl ms.length BIG 0 (c.Msize_, c.Session_, c.Calls_, []) (by omega) (by rw [List.length_append] at hml; omega) hti
   have hkeep := run_keeps hti hmok
   rw [show ((0 : Nat) : Int) = 0 from rfl] at hl1 hl2
   have hl1 : an_ (c9_ (ms, rest, 0)) BIG (0, 0, true, c.Msize_, c.Session_, rest, c.Fids_, c.Calls_, []) = some ((b1_ ms (c.Msize_, c.Session_, c.Calls_, [])).1, true, (b1_ ms (c.Msize_, c.Session_, c.Calls_, [])).2.1, (b1_ ms (c.Msize_, c.Session_, c.Calls_, [])).2.2.1, rest, c.Fids_, (b1_ ms (c.Msize_, c.Session_, c.Calls_, [])).2.2.2.1, (b1_ ms (c.Msize_, c.Session_, c.Calls_, [])).2.2.2.2) := hl1
   have hl2 : an_ da_ BIG (0, c, ms, []) = some (outR c (b1_ ms (c.Msize_, c.Session_, c.Calls_, []))) := hl2
   obtain ⟨e, t, hrun⟩ : ∃ e t, b1_ ms (c.Msize_, c.Session_, c.Calls_, []) = (e, t) := ⟨_, _, rfl⟩
   rw [hrun] at hl1 hl2 hkeep
   have hkl := hkeep.len
   unfold outR at hl2
   dsimp only at hl1 hl2 hkeep hkl
   -- what is lost
   have hlost : ∀ part : Str, part.length ≤ 1000000 → SzC ⟨true, t.1, t.2.1, c.Fids_, t.2.2.1, part⟩ := fun part _ => ⟨by show t.2.2.1.length ≤ 1000; omega, hg.fids, fun x hx => by
    obtain ⟨y0, h1, h2⟩ := hkeep.from_ x hx
    rw [← h2]; exact (hg.each y0 h1).1⟩
   have hlm : ∀ part : Str, (du_ ⟨true, t.1, t.2.1, c.Fids_, t.2.2.1, part⟩).length = t.2.2.1.length := fun part => by unfold du_; rw [List.length_map]
   have hroom : ∀ part : Str, bF_ 424 t.2.2.2 (du_ ⟨true, t.1, t.2.1, c.Fids_, t.2.2.1, part⟩) = some (t.2.2.2 ++ du_ ⟨true, t.1, t.2.1, c.Fids_, t.2.2.1, part⟩) := fun part => bm_ (by rw [hlm]; omega) (by rw [hlm]; omega)
   have hlrp : RP (hL_ ⟨true, t.1, t.2.1, c.Fids_, t.2.2.1, rest⟩) := ⟨rfl, hkeep.se, hr.fl, hr.fids, Nat.zero_le _, .nil, decide_eq_true spl_nil, .inr ⟨rfl, rfl⟩⟩
   have hlg : G (hL_ ⟨true, t.1, t.2.1, c.Fids_, t.2.2.1, rest⟩) := ⟨Nat.zero_le _, hg.fids, Nat.zero_le _, (fun _ h => nomatch h)⟩
   have hlq : ∀ m ∈ t.2.2.2 ++ du_ ⟨true, t.1, t.2.1, c.Fids_, t.2.2.1, rest⟩, m.Names_.length ≤ 9223372036854775807 ∧ m.Qids_.length ≤ 9223372036854775807 := fun m hm => by
    rcases List.mem_append.1 hm with h1 | h1
    ·exact hkeep.out m h1
    ·exact pP_ m h1
   have hlen2 : (t.2.2.2 ++ du_ ⟨true, t.1, t.2.1, c.Fids_, t.2.2.1, rest⟩).length + 0 = c.Calls_.length := by rw [List.length_append, hlm]; omega
   by_cases he : e = 0
   ·subst he
    rw [if_pos rfl] at hl2
    rcases rest_split hstop (by omega) t.1 with h2 | ⟨e2, h2, hne2⟩
    ·
     have h3 := (hH_ rest t.1 (by omega)).trans h2
     refine ⟨(⟨true, t.1, t.2.1, c.Fids_, t.2.2.1, rest⟩, t.2.2.2, 0), aa_ ho (ab_ rfl (aa_ hcat (aa_ hsplit (ab_ rfl (aa_ (by rw [hu]; exact hl1) (aa_ (ac_ rfl (aa_ h2 rfl)) (ab_ rfl rfl))))))), ab_ rfl (aa_ hcat (aa_ hsplit2 (ab_ rfl (aa_ hl2 (aa_ h3 (ab_ rfl (by rw [← hu]; rfl))))))), ?_, ?_, hkl, hkeep.out, fun _ => ⟨ms, rest, t, hu, hsp, hrun, h2, by rw [hu]⟩, .inl ⟨ms, rest, t, hu, hsp, hrun, h2, by rw [hu]⟩, ?_, fun _ _ _ _ _ _ _ => rfl⟩
     ·exact ⟨(msB_iff _).2 hkeep.ms, hkeep.se, hr.fl, hr.fids, by have := hr.len; show t.2.2.1.length ≤ 64; omega, hkeep.cv, decide_eq_true h2, .inl rfl⟩
     ·refine ⟨by show t.2.2.1.length ≤ 1000; omega, hg.fids, by show rest.length ≤ 100000; rw [List.length_append] at hrl; omega, fun x hx => ?_⟩
      obtain ⟨y0, h1, h2⟩ := hkeep.from_ x hx
      rw [← h2]; exact hg.each y0 h1
     ·intro ms' rest' t' e' _ hsp' hrun' he'
      have h9 := cH_ hxl hsp'
      rw [hsplit] at h9
      simp only [Option.some.injEq, Prod.mk.injEq] at h9
      obtain ⟨rfl, _, _⟩ := h9
      rw [hrun] at hrun'
      simp only [Prod.mk.injEq] at hrun'
      exact absurd hrun'.1.symm he'
    ·have h3 := (hH_ rest t.1 (by omega)).trans h2
     have hb2 : (e2 != 0) = true := by simpa using hne2
     refine ⟨(hL_ ⟨true, t.1, t.2.1, c.Fids_, t.2.2.1, rest⟩, t.2.2.2 ++ du_ ⟨true, t.1, t.2.1, c.Fids_, t.2.2.1, rest⟩, e2), aa_ ho (ab_ rfl (aa_ hcat (aa_ hsplit (ab_ rfl (aa_ (by rw [hu]; exact hl1) (aa_ (ac_ rfl (aa_ h2 rfl)) (ac_ hb2 (aa_ (le_ (hlost rest (by omega)) rfl).1 (aa_ (hroom rest) rfl))))))))), ab_ rfl (aa_ hcat (aa_ hsplit2 (ab_ rfl (aa_ hl2 (aa_ h3 (ac_ hb2 (aa_ (a := (hL_ ⟨true, t.1, t.2.1, c.Fids_, t.2.2.1, rest⟩, du_ ⟨true, t.1, t.2.1, c.Fids_, t.2.2.1, rest⟩)) ?_ (aa_ (hroom rest) rfl)))))))), hlrp, hlg, hlen2, hlq, fun h => absurd h hne2, .inr hne2, ?_, ?_⟩
     ·have := (le_ (c := cliT c t) (by have := hlost c.Partial_ (by omega); unfold cliT; rw [hu]; exact this) hu).2
      exact this
     ·intro ms' rest' t' e' _ hsp' hrun' he'
      have h9 := cH_ hxl hsp'
      rw [hsplit] at h9
      simp only [Option.some.injEq, Prod.mk.injEq] at h9
      obtain ⟨rfl, _, _⟩ := h9
      rw [hrun] at hrun'
      simp only [Prod.mk.injEq] at hrun'
      exact absurd hrun'.1.symm he'
     ·intro ms' rest' t' _ hsp' hrun' hsp2
      have h9 := cH_ hxl hsp'
      rw [hsplit] at h9
      simp only [Option.some.injEq, Prod.mk.injEq] at h9
      obtain ⟨rfl, rfl, _⟩ := h9
      rw [hrun] at hrun'
      simp only [Prod.mk.injEq] at hrun'
      obtain ⟨_, rfl⟩ := hrun'
      rw [h2] at hsp2
      simp only [Option.some.injEq, Prod.mk.injEq] at hsp2
      exact absurd hsp2.2.2 hne2
   ·rw [if_neg he] at hl2
    have hb : (e == 0) = false := by simpa using he
    have hb2 : (e != 0) = true := by simpa using he
    refine ⟨(hL_ ⟨true, t.1, t.2.1, c.Fids_, t.2.2.1, rest⟩, t.2.2.2 ++ du_ ⟨true, t.1, t.2.1, c.Fids_, t.2.2.1, rest⟩, e), aa_ ho (ab_ rfl (aa_ hcat (aa_ hsplit (ab_ rfl (aa_ (by rw [hu]; exact hl1) (aa_ (ab_ hb rfl) (ac_ hb2 (aa_ (le_ (hlost rest (by omega)) rfl).1 (aa_ (hroom rest) rfl))))))))), ab_ rfl (aa_ hcat (aa_ hsplit2 (ab_ rfl (aa_ hl2 rfl)))), hlrp, hlg, hlen2, hlq, fun h => absurd h he, .inr he, ?_, ?_⟩
    ·intro ms' rest' t' e' _ hsp' hrun' he'
     have h9 := cH_ hxl hsp'
     rw [hsplit] at h9
     simp only [Option.some.injEq, Prod.mk.injEq] at h9
     obtain ⟨rfl, _, _⟩ := h9
     rw [hrun] at hrun'
     simp only [Prod.mk.injEq] at hrun'
     exact ⟨hrun'.1, rfl⟩
    ·intro ms' rest' t' _ hsp' hrun' _
     have h9 := cH_ hxl hsp'
     rw [hsplit] at h9
     simp only [Option.some.injEq, Prod.mk.injEq] at h9
     obtain ⟨rfl, _, _⟩ := h9
     rw [hrun] at hrun'
     simp only [Prod.mk.injEq] at hrun'
     exact absurd hrun'.1 he
  ·have h2 := (hH_ _ c.Msize_ hxl).trans he
   have hb : (e != 0) = true := by simpa using hne
   obtain ⟨l1, l2⟩ := le_ hg.szc hu
   refine ⟨(hL_ c, du_ c, e), aa_ ho (ab_ rfl (aa_ hcat (aa_ he (ac_ hb (aa_ l1 rfl))))), ab_ rfl (aa_ hcat (aa_ h2 (ac_ hb (aa_ l2 rfl)))), lose_rp hr, lose_g hg, by show (du_ c).length + 0 = _; unfold du_; simp, pP_, fun h => absurd h hne, .inr hne, ?_, ?_⟩
   ·intro ms' rest' t' e' _ hsp' _ _
    have h9 := cH_ hxl hsp'
    rw [he] at h9
    simp only [Option.some.injEq, Prod.mk.injEq] at h9
    exact absurd h9.2.2 hne
   ·intro ms' rest' t' _ hsp' _ _
    have h9 := cH_ hxl hsp'
    rw [he] at h9
    simp only [Option.some.injEq, Prod.mk.injEq] at h9
    exact absurd h9.2.2 hne
end Go.Proofs.YtolgkhjkdadhiaaGreat
namespace Go.Proofs.YtolgkhjkdadhiaaGreat
open Go.Rt Go.RowKit
def m0 : api_Msg := api_Msg.mk 120 0 7 0 0 0 0 [] [] [] [] [] (api_Qid.mk 0 0 0) 0 0 0 [] 0 0 [] (api_Dir.mk 0 0 (api_Qid.mk 0 0 0) 0 0 0 0 [] [] [] []) 0 0 0 []
def cc (l : List api_Call) (p : Str) : api_Client := ⟨true, 0, [], [], l, p⟩
theorem m0_ok : m0.ok := ⟨⟨Nat.zero_le _, (fun _ h => nomatch h), Nat.zero_le _, Nat.zero_le _, zdir_ok⟩, (fun _ h => nomatch h), ni_⟩
theorem c0_g : G (cc [] []) := ⟨Nat.zero_le _, Nat.zero_le _, Nat.zero_le _, (fun _ h => nomatch h)⟩
theorem c0_rp : RP (cc [] []) := ⟨rfl, Nat.zero_le _, Nat.zero_le _, rfl, Nat.zero_le _, .nil, decide_eq_true spl_nil, .inl rfl⟩
def dB_ (n : Int) : api_Msg := api_Msg.mk 109 n 0 0 0 0 0 [] [] [] [] [] (api_Qid.mk 0 0 0) 0 0 0 [] 0 0 [] (api_Dir.mk 0 0 (api_Qid.mk 0 0 0) 0 0 0 0 [] [] [] []) 0 0 0 []
theorem rs0 : kS_ (cc [] []) m0 = some (cc [⟨bL_ m0 1, 65535⟩] [], 1, [11, 0, 0, 0, 120, 1, 0, 7, 0, 0, 0], 0) := by kernel_rfl
theorem rf0 : kT_ (cc [⟨bL_ m0 1, 65535⟩] []) 1 = some (cc [⟨bL_ m0 1, 2⟩, ⟨bD_ 2 1, 65535⟩] [], 2, [9, 0, 0, 0, 108, 2, 0, 1, 0], 0) := by kernel_rfl
theorem rr0 : gK_ (cc [⟨bL_ m0 1, 2⟩, ⟨bD_ 2 1, 65535⟩] []) [7, 0, 0, 0, 109, 2] = some (cc [⟨bL_ m0 1, 2⟩, ⟨bD_ 2 1, 65535⟩] [7, 0, 0, 0, 109, 2], [], 0) := by kernel_rfl
theorem rr1 : gK_ (cc [⟨bL_ m0 1, 2⟩, ⟨bD_ 2 1, 65535⟩] [7, 0, 0, 0, 109, 2]) [0] = some (cc [] [], [dj_ (bL_ m0 1) 56, dB_ 2], 0) := by kernel_rfl
theorem awake38 : cu_ = some true := by
 obtain ⟨v, a1, a2, a3, a4⟩ := start_both c0_g c0_rp m0_ok ⟨Nat.zero_le _, Nat.zero_le _⟩
 rw [rs0] at a2
 obtain rfl := Option.some.inj a2
 obtain ⟨v, b1, b2, b3, b4, _⟩ := pO_ 1 a4 a3
 rw [rf0] at b2
 obtain rfl := Option.some.inj b2
 obtain ⟨v, d1, d2, d3, d4, _⟩ := d1_ (s := [7, 0, 0, 0, 109, 2]) b4 b3 (by decide)
 rw [rr0] at d2
 obtain rfl := Option.some.inj d2
 obtain ⟨v, e1, e2, e3, e4, _⟩ := d1_ (s := [0]) d4 d3 (by decide)
 rw [rr1] at e2
 obtain rfl := Option.some.inj e2
 have hr := right_eq (e4.rsz)
 rw [(right_iff _).2 e3] at hr
 unfold cu_
 exact aa_ (a := cc [] []) rfl (aa_ a1 (ab_ rfl (aa_ b1 (aa_ (a := false) (ab_ rfl (aa_ (a := ⟨bL_ m0 1, 2⟩) rfl rfl)) (ab_ rfl (aa_ d1 (ab_ rfl (aa_ e1 (aa_ (a := true) rfl (aa_ (a := true) rfl (aa_ (a := true) rfl (aa_ (a := true) (ac_ rfl (aa_ hr rfl)) rfl))))))))))))
def shortB (s : Str) : Bool := decide (s.length ≤ 1100)
theorem light_eq (m : api_Msg) : ∃ b, dQ_ m = some b ∧ (b = true → Sz m) := by
 have hB : BIG = 18446744073709551616 := rfl
 unfold dQ_
 cases hA : ((((((((decide ((m.Names_.length : Int) > 40)) || (decide ((m.Qids_.length : Int) > 40))) || (decide ((m.Data_.length : Int) > 9000))) || (decide ((m.Version_.length : Int) > 1100))) || (decide ((m.User_.length : Int) > 1100))) || (decide ((m.Attach_.length : Int) > 1100))) || (decide ((m.Name_.length : Int) > 1100))) || (decide ((m.Session_.length : Int) > 1100))) with
 | true => exact ⟨false, rfl, fun h => nomatch h⟩
 | false =>
  simp only [Bool.or_eq_false_iff, decide_eq_false_iff_not] at hA
  obtain ⟨⟨⟨⟨⟨⟨⟨n1, n2⟩, _⟩, _⟩, _⟩, _⟩, _⟩, _⟩ := hA
  have hl := em_ (body := f6_ m) m.Names_ (fun _ s => noO (shortB s)) (by omega) (fun i hi => by
   unfold f6_
   refine ac_ (lt_t hi) (aa_ (az_ hi) ?_)
   have e : decide (((m.Names_[i]).length : Int) > 1100) = !(shortB m.Names_[i]) := by unfold shortB; rw [Bool.eq_iff_iff]; simp; omega
   rw [e]
   cases shortB m.Names_[i] with
   | true => refine ab_ rfl ?_; rw [cx_ (by omega)]; rfl
   | false => rfl) (by unfold f6_; exact ab_ (lt_f _) rfl)
  have hz : Sz m := ⟨by omega, by omega⟩
  rcases g0_ (fun _ s => shortB s) m.Names_ 0 with h1 | h1
  ·rw [h1] at hl
   exact ⟨_, ab_ rfl (aa_ hl rfl), fun _ => hz⟩
  ·rw [h1] at hl
   exact ⟨_, ab_ rfl (aa_ hl rfl), fun _ => hz⟩
structure SM (c : api_Client) : Prop where
 calls : c.Calls_.length ≤ 70
 fids : c.Fids_.length ≤ 300
 part : c.Partial_.length ≤ 9000
 each : ∀ x ∈ c.Calls_, Sz x.Req_
noncomputable def kb_ (x : api_Call) : Bool := (dQ_ x.Req_).getD false
theorem small_eq (c : api_Client) : ∃ b, fl_ c = some b ∧ (b = true → SM c) := by
 have hB : BIG = 18446744073709551616 := rfl
 unfold fl_
 cases hA : ((((decide ((c.Calls_.length : Int) > 70)) || (decide ((c.Fids_.length : Int) > 300))) || (decide ((c.Session_.length : Int) > 1100))) || (decide ((c.Partial_.length : Int) > 9000))) with
 | true => exact ⟨false, rfl, fun h => nomatch h⟩
 | false =>
  simp only [Bool.or_eq_false_iff, decide_eq_false_iff_not] at hA
  obtain ⟨⟨⟨n1, n2⟩, _⟩, n4⟩ := hA
  have hc : ∀ x : api_Call, dQ_ x.Req_ = some (kb_ x) ∧ (kb_ x = true → Sz x.Req_) := fun x => by
   obtain ⟨b, h1, h2⟩ := light_eq x.Req_
   unfold kb_
   rw [h1]
   exact ⟨rfl, h2⟩
  have hl := em_ (body := f7_ c) c.Calls_ (fun _ x => noO (kb_ x)) (by omega) (fun i hi => by
   unfold f7_
   refine ac_ (lt_t hi) (aa_ (az_ hi) (aa_ (hc _).1 ?_))
   cases kb_ c.Calls_[i] with
   | true => refine ab_ rfl ?_; rw [cx_ (by omega)]; rfl
   | false => rfl) (by unfold f7_; exact ab_ (lt_f _) rfl)
  cases h1 : ex_ (fun _ x => noO (kb_ x)) 0 c.Calls_ with
  | none =>
   rw [h1] at hl
   refine ⟨true, ab_ rfl (aa_ hl rfl), fun _ => ⟨by omega, by omega, by omega, fun x hx => ?_⟩⟩
   obtain ⟨i, hi⟩ := List.mem_iff_getElem?.1 hx
   exact (hc x).2 (noO_none.1 (scan_none.1 h1 i x hi))
  | some r =>
   rcases g0_ (fun _ x => kb_ x) c.Calls_ 0 with h2 | h2
   ·rw [h2] at h1; cases h1
   ·rw [h2] at hl
    exact ⟨false, ab_ rfl (aa_ hl rfl), fun h => nomatch h⟩
theorem fit_calls {c : api_Client} (h : Fit te (.st 4) c) : ∀ x ∈ c.Calls_, x.Req_.ok := by
 intro x hx
 have h1 := (h 2).2.2.2.2.1.2 x hx
 obtain ⟨k1, k2, k3, k4, k5, k6, k7, t1, t2, t3, ⟨nl, nm⟩, ⟨ql, qm⟩, q1, q2, q3, i1, i2, i3, t4, i4, i5, t5, d1, d2, d3, d4, d5, d6, d7, d8, d9, s1, s2, s3, s4, e1, e2, e3, t6, _⟩ := h1
 refine ⟨⟨nl, fun s hs => (nm s hs).1, ql, t4, d1, d2, ⟨d3, d4, d5⟩, d6, d7, d8, d9, s1, s2, s3, s4⟩, fun q hq => ?_, q1, q2, q3⟩
 obtain ⟨a, b, c, _⟩ := qm q hq
 exact ⟨a, b, c⟩
theorem sm_g {c : api_Client} (h : SM c) (f : Fit te (.st 4) c) : G c := ⟨by have := h.calls; omega, by have := h.fids; omega, by have := h.part; omega, fun x hx => ⟨h.each x hx, fit_calls f x hx⟩⟩
theorem door {c : api_Client} (h0 : Fit te (.st 4) c) {F : Bool → Option Bool} {y : Bool} (hy : y = false → SM c) (hA : F true = some true) (hB : y = false → G c → RP c → F false = some true) :
  (Option.bind (bif y then some true else Option.bind (ft_ c) fun (y4 : Bool) => some (!y4)) F) = some true := by
 cases y with
 | true => exact aa_ (a := true) rfl hA
 | false =>
  have hg := sm_g (hy rfl) h0
  rw [refright_eq hg.rsz]
  cases hr : j8_ c with
  | false => exact aa_ (a := true) rfl hA
  | true => exact aa_ (a := false) rfl (hB rfl hg ((right_iff c).1 hr))
theorem gh_ : (Option.bind (cu_) fun (y6 : Bool) => some (y6)) = some true := aa_ awake38 rfl
theorem two_gates (x0 : api_Client) (x1 : api_Msg) : ∃ b, fl_ x0 = some b ∧ ∃ b', (bif (!b) then some true else Option.bind (dQ_ x1) fun (y2 : Bool) => some (!y2)) = some (!b') ∧ (b' = true → SM x0 ∧ Sz x1) := by
 obtain ⟨b, hb, hs⟩ := small_eq x0
 obtain ⟨b', hb', hz⟩ := light_eq x1
 refine ⟨b, hb, b && b', ?_, fun h => ?_⟩
 ·cases b with
  | false => rfl
  | true => exact ab_ rfl (aa_ hb' rfl)
 ·rw [Bool.and_eq_true] at h
  exact ⟨hs h.1, hz h.2⟩
end Go.Proofs.YtolgkhjkdadhiaaGreat
namespace Go.Proofs.YtolgkhjkdadhiaaGreat
open Go.Rt Go.RowKit
def notBad (r : Res) : Prop := match r with
 | .bad _ => False
 | _ => True
theorem one_two {o o' : Int} {x : Str} (h : notBad (one o x)) (h' : notBad (one o' x)) : one o x = one o' x := by
 unfold one at *
 by_cases h4 : x.length < 4
 ·rw [if_pos h4, if_pos h4]
 ·rw [if_neg h4] at h h' ⊢
  rw [if_neg h4]
  by_cases h7 : (leV (win x 0 4) : Int) > o ∨ leV (win x 0 4) < 7
  ·rw [if_pos h7] at h; exact h.elim
  ·by_cases h8 : (leV (win x 0 4) : Int) > o' ∨ leV (win x 0 4) < 7
   ·rw [if_pos h8] at h'; exact h'.elim
   ·rw [if_neg h7, if_neg h8]
theorem spl_two {o o' : Int} {x : Str} {ms : List api_Msg} {r : Str} (h : Spl o x ms r) : ∀ {ms' r'}, Spl o' x ms' r' → ms = ms' ∧ r = r' := by
 induction h with
 | stop h1 =>
  intro ms' r' h'
  cases h' with
  | stop h2 => exact ⟨rfl, rfl⟩
  | got h2 _ =>
   have := one_two (o := o) (o' := o') (by rw [h1]; trivial) (by rw [h2]; trivial)
   rw [h1, h2] at this; cases this
 | got h1 _ ih =>
  intro ms' r' h'
  cases h' with
  | stop h2 =>
   have := one_two (o := o) (o' := o') (by rw [h1]; trivial) (by rw [h2]; trivial)
   rw [h1, h2] at this; cases this
  | got h2 h3 =>
   have := one_two (o := o) (o' := o') (by rw [h1]; trivial) (by rw [h2]; trivial)
   rw [h1, h2] at this
   injection this with e1 e2
   subst e1 e2
   obtain ⟨a, b⟩ := ih h3
   exact ⟨by rw [a], b⟩
theorem runS_acc (acc : List api_Msg) : ∀ (ms : List api_Msg) (a : Int) (b : Str) (l : List api_Call) (q : List api_Msg), b1_ ms (a, b, l, acc ++ q) = ((b1_ ms (a, b, l, q)).1, (b1_ ms (a, b, l, q)).2.1, (b1_ ms (a, b, l, q)).2.2.1, (b1_ ms (a, b, l, q)).2.2.2.1, acc ++ (b1_ ms (a, b, l, q)).2.2.2.2)
 | [], _, _, _, _ => rfl
 | m :: ms, a, b, l, q => by
  simp only [b1_]
  cases dv_ a b l m with
  | inl e => rfl
  | inr u =>
   have := runS_acc acc ms u.1 u.2.1 u.2.2.1 (q ++ u.2.2.2)
   rw [← List.append_assoc] at this
   exact this
theorem pQ_ (x0 : api_Client) (x1 : Str) (x2 : Int) (h0 : Fit te (.st 4) x0) (_ : Fit te .str x1) (h2 : Fit te (.int .u16) x2) : fH_ x0 x1 x2 = some true := by
 unfold fH_
 obtain ⟨b, hb, hs⟩ := small_eq x0
 refine aa_ hb (door h0 (fun h => hs (by simp at h; exact h.1)) (ac_ rfl gh_) fun h hg hr => ab_ rfl ?_)
 simp only [Bool.or_eq_false_iff, decide_eq_false_iff_not] at h
 obtain ⟨c1, c2⟩ : 0 ≤ x2 ∧ x2 ≤ 65535 := (h2 0).1
 obtain ⟨k, hk, hkl⟩ : ∃ k : Nat, minI (w64 x2) (x1.length : Int) = (k : Int) ∧ k ≤ x1.length := by
  rw [am_ ⟨by omega, by omega⟩]
  unfold minI
  split
  ·exact ⟨x1.length, rfl, Nat.le_refl _⟩
  ·exact ⟨x2.toNat, by omega, by omega⟩
 rw [hk]
 obtain ⟨v, a1, _, a3, a4, a5, a6, a7, _⟩ := d1_ (s := x1) hg hr (by omega)
 obtain ⟨v1, b1, _, b3, b4, b5, b6, b7, _⟩ := d1_ (s := x1.take k) hg hr (by rw [List.length_take]; omega)
 obtain ⟨v2, d1, _, d3, d4, d5, d6, d7, _⟩ := d1_ (s := x1.drop k) b4 b3 (by rw [List.length_drop]; omega)
 have s1 : bO_ x1 0 (k : Int) = some (x1.take k) := by
  rw [gd_ (by omega) (by omega) (by omega)]; simp
 have s2 : bO_ x1 (k : Int) (x1.length : Int) = some (x1.drop k) := by
  rw [gd_ (by omega) (by omega) (by omega)]; simp
 refine aa_ a1 (aa_ s1 (aa_ b1 (aa_ s2 (aa_ d1 ?_))))
 cases hc : ((v.2.2 != 0) || (v1.2.2 != 0)) || (v2.2.2 != 0) with
 | true => exact ac_ rfl gh_
 | false =>
  simp only [Bool.or_eq_false_iff, bne_eq_false_iff_eq] at hc
  obtain ⟨ms, rest, t, R⟩ := a7 hc.1.1
  obtain ⟨ms1, rest1, t1, R1⟩ := b7 hc.1.2
  obtain ⟨ms2, rest2, t2, R2⟩ := d7 hc.2
  have hp := hr.part hg
  have hcl := hg.calls
  have hxl : (x0.Partial_ ++ x1).length ≤ 1000000 := by rw [List.length_append]; omega
  obtain ⟨n1, r1, n2, p1, p2, p3⟩ := R.spl.pieces (x0.Partial_ ++ x1.take k) (x1.drop k) (by rw [List.append_assoc, List.take_append_drop]) hxl
  obtain ⟨q1, q2⟩ := spl_two p1 R1.spl
  subst q1 q2
  have e1 := R1.res
  have hv1 : v1.1 = ⟨x0.Up_, t1.1, t1.2.1, x0.Fids_, t1.2.2.1, r1⟩ := by rw [e1]
  have hsp2 := R2.spl
  have hrun2 := R2.run
  rw [hv1] at hsp2 hrun2
  obtain ⟨q3, q4⟩ := spl_two p2 hsp2
  subst q3 q4
  have hrun := R.run
  rw [p3, runS_app n2 t1 n1 _ R1.run] at hrun
  have hacc := runS_acc t1.2.2.2 n2 t1.1 t1.2.1 t1.2.2.1 []
  rw [List.append_nil] at hacc
  have hrun2 : b1_ n2 (t1.1, t1.2.1, t1.2.2.1, []) = (0, t2) := hrun2
  rw [hrun2] at hacc
  have hrun : b1_ n2 (t1.1, t1.2.1, t1.2.2.1, t1.2.2.2) = (0, t) := hrun
  rw [hacc] at hrun
  have ht : t = (t2.1, t2.2.1, t2.2.2.1, t1.2.2.2 ++ t2.2.2.2) := (Prod.mk.inj hrun).2.symm
  have hv : v.1 = v2.1 := by
   rw [R.res, R2.res, hv1, ht]
  have hm : v.2.1 = v1.2.1 ++ v2.2.1 := by
   rw [R.res, R1.res, R2.res, ht]
  have hl : v1.2.1.length + v2.2.1.length ≤ 2000 := by
   have := d5
   have := b4.calls
   omega
  refine ab_ rfl (aa_ (a := true) (by rw [← hv]; exact same_self a4.szc) (aa_ (a := true) (ac_ rfl (aa_ (bm_ (by simp; omega) (by simp; omega)) (aa_ (bm_ (by simp; omega) (by simp; omega)) (aa_ (a := true) ?_ rfl)))) (aa_ (a := true) (ac_ rfl gh_) rfl)))
  rw [List.nil_append, ← hm]
  exact rx_ (by omega) a6
theorem put_get {m : api_Msg} (h : m.ok) {s : Str} (hp : dx_ m = some (s, 0)) : 7 ≤ s.length ∧ s.length ≤ 8192 ∧ leV (win s 0 4) = s.length ∧ bS_ s 0 = some (m, (s.length : Int), 0) := by
 have hc : aX_ m = some 0 := by simpa [d6_] using put_chk hp h
 obtain ⟨l, nm, e1, hn, e2, hl, hm, hw, ⟨u1, k1⟩, ⟨u2, k2⟩, hk, hg⟩ := pC_ m h hc
 obtain ⟨u3, k3⟩ := encA_ex hw
 have he : app2 (bc_ m.Kind_ 1) (app2 (bc_ m.Tag_ 2) (encA l m)) = some (u1 ++ (u2 ++ u3)) := by rw [k1, k2, k3]; rfl
 have a1 := gX_ k1
 have a2 := gX_ k2
 have ht : (u1 ++ (u2 ++ u3)).length ≤ 1152921504606846976 := by
  have a3 := j6_ 17179869184 (fun k t h' => encF_len k m h') k3
  have a4 : 17179869184 * l.length ≤ 17179869184 * 100 := Nat.mul_le_mul_left _ hl
  simp only [List.length_append]
  omega
 have h3 : 3 ≤ (u1 ++ (u2 ++ u3)).length := by simp only [List.length_append]; omega
 generalize u1 ++ (u2 ++ u3) = t at he ht h3
 have hq := put_fwd m l t hc e2 hl he ht
 rw [hp] at hq
 by_cases h8 : t.length + 4 ≤ 8192
 ·rw [if_pos h8] at hq
  simp only [Option.some.injEq, Prod.mk.injEq] at hq
  have hgb := get_back m [] [] t l nm hc e1 hn e2 hl hm hw hk hg he h8 (by simp) (by simp)
  rw [List.nil_append, List.append_nil, ← hq.1] at hgb
  have hsl : s.length = t.length + 4 := by rw [hq.1, List.length_append, ap_]; omega
  refine ⟨by omega, by omega, ?_, ?_⟩
  ·have hwin : win s 0 4 = leB ((t.length + 4 : Nat) : Int) 4 := by
    rw [hq.1]
    unfold win
    rw [List.drop_zero, List.take_append_of_le_length (by rw [ap_]; omega), List.take_of_length_le (by rw [ap_]; omega)]
   rw [hwin, ib_ 4 _ (by omega), hsl]
  ·rw [hsl]
   simpa using hgb
 ·rw [if_neg h8] at hq
  simp only [Option.some.injEq, Prod.mk.injEq] at hq
  exact absurd hq.2 (by decide)
theorem put_spl {m : api_Msg} (h : m.ok) {s : Str} (hp : dx_ m = some (s, 0)) {o : Int} (ho : (s.length : Int) ≤ o) : Spl o s [m] [] := by
 obtain ⟨h1, h2, h3, h4⟩ := put_get h hp
 have e : one o s = .got m s.length := by
  unfold one
  rw [if_neg (by omega), h3, if_neg (by omega), if_neg (by omega), h4]
  simp
 refine .got e ?_
 rw [List.drop_length]
 exact .stop rfl
theorem limR_ok {n : Int} (h : msOK n) : 256 ≤ dN_ n := by unfold dN_; rcases h with h | h <;> split <;> omega
theorem nj_ (n : Int) : (dB_ n).ok := ⟨⟨Nat.zero_le _, (fun _ h => nomatch h), Nat.zero_le _, Nat.zero_le _, zdir_ok⟩, (fun _ h => nomatch h), ni_⟩
theorem rflM_put {n : Int} (h0 : 0 ≤ n) (h1 : n ≤ 65534) : ∃ s, dx_ (dB_ n) = some (s, 0) ∧ dp_ (dB_ n) = some (s, 0) ∧ s.length ≤ 7 := by
 have e2 : cj_ (dB_ n) = some true := by
  show some ((decide (n ≥ 0)) && (decide (n ≤ 65534))) = some true
  simp [h0, h1]
 have hc : aX_ (dB_ n) = some 0 := n3_ (dB_ n) (nj_ n) [] ((br_ 109).getD []) true rfl e2 rfl (fun hz => ff_109 (dB_ n) rfl (nj_ n) hz)
 have hf : bx_ n 2 = true := by
  unfold bx_
  simp [h0]
  omega
 have he : app2 (bc_ 109 1) (app2 (bc_ n 2) (encA [] (dB_ n))) = some (leB 109 1 ++ (leB n 2 ++ [])) := by
  have k1 : bc_ 109 1 = some (leB 109 1) := by unfold bc_; rw [if_pos (by decide)]
  have k2 : bc_ n 2 = some (leB n 2) := by unfold bc_; rw [if_pos hf]
  rw [k1, k2]; rfl
 have hl : (leB 109 1 ++ (leB n 2 ++ [])).length = 3 := by simp [ap_]
 have hq := put_fwd (dB_ n) [] _ hc rfl (by simp) he (by rw [hl]; omega)
 rw [hl, if_pos (by omega)] at hq
 obtain ⟨y, p1, p2⟩ := lY_ (dB_ n) (nj_ n)
 rw [hq] at p1
 obtain rfl := Option.some.inj p1
 exact ⟨_, hq, p2, by rw [List.length_append, ap_, hl]; omega⟩
theorem find_only {l : List api_Call} (h : (l.map fun x => x.Req_.Tag_).Nodup) {x : api_Call} (hx : x ∈ l) : ∃ i : Nat, l.find? (d0_ x.Req_.Tag_) = some x ∧ bY_ l x.Req_.Tag_ = (i : Int) ∧ l[i]? = some x := by
 rcases fb_ (l := l) x.Req_.Tag_ with ⟨_, _, h1⟩ | ⟨i, y, h1, h2, h3, h4⟩
 ·exact absurd rfl (h1 x hx)
 ·obtain rfl := nd_eq h (List.mem_of_getElem? h3) hx h4
  exact ⟨i, h1, h2, h3⟩
theorem ans_rfl (n t : Int) : ansB (bD_ n t) (dB_ n) = true := by
 unfold ansB
 have : cg_ (bD_ n t) (dB_ n) = some true := by
  unfold cg_
  refine aa_ (cS_ _) (ab_ ?_ (ab_ rfl (aa_ (a := 109) ?_ rfl)))
  ·show ((!(cE_ 108)) || (n != n)) = false
   rw [l2_]; simp
  ·unfold ha_
   refine aa_ (cS_ _) (ab_ ?_ rfl)
   show (!(cE_ 108)) = false
   rw [l2_]; rfl
 rw [this]; rfl
theorem take_rfl {l : List api_Call} (hc : CV l) {n t : Int} {z : api_Call} (hm : (⟨bD_ n t, 65535⟩ : api_Call) ∈ l) (hz : z ∈ l) (ht : z.Req_.Tag_ = t) (hk : z.Req_.Kind_ ≠ 108) (ms : Int) (se : Str) :
  ∃ l', dv_ ms se l (dB_ n) = .inr (ms, se, l', [dj_ z.Req_ 56, dB_ n]) ∧ ∀ y ∈ l', y.Req_.Tag_ ≠ t := by
 obtain ⟨i, h1, h2, h3⟩ := find_only hc.nd hm
 have h1 : l.find? (d0_ n) = some ⟨bD_ n t, 65535⟩ := h1
 have h2 : bY_ l n = (i : Int) := h2
 have hz1 : z ∈ l.eraseIdx i := (cY_ hc.nd h3).2 ⟨hz, fun e => hk (by rw [e]; rfl)⟩
 have hnd1 : ((l.eraseIdx i).map fun x => x.Req_.Tag_).Nodup := hc.nd.sublist ((List.eraseIdx_sublist l i).map _)
 obtain ⟨j, g1, g2, g3⟩ := find_only hnd1 hz1
 rw [ht] at g1 g2
 refine ⟨(l.eraseIdx i).eraseIdx j, ?_, fun y hy e => ?_⟩
 ·unfold dv_
  have e1 : l.find? (d0_ (dB_ n).Tag_) = some ⟨bD_ n t, 65535⟩ := h1
  have e2 : bY_ l (dB_ n).Tag_ = (i : Int) := h2
  rw [e1, e2]
  dsimp only
  rw [ans_rfl]
  show Sum.inr (ms, se, (cA_ (l.eraseIdx i) (bD_ n t) (dB_ n)).1, (cA_ (l.eraseIdx i) (bD_ n t) (dB_ n)).2 ++ [dB_ n]) = _
  have e3 : cA_ (l.eraseIdx i) (bD_ n t) (dB_ n) = ((l.eraseIdx i).eraseIdx j, [dj_ z.Req_ 56]) := by
   unfold cA_
   have g1 : (l.eraseIdx i).find? (d0_ (bD_ n t).OldTag_) = some z := g1
   have g2 : bY_ (l.eraseIdx i) (bD_ n t).OldTag_ = (j : Int) := g2
   rw [g1, g2]; rfl
  rw [e3]; rfl
 ·obtain ⟨a, b⟩ := (cY_ hnd1 g3).1 hy
  exact b (nd_eq hnd1 a hz1 (e.trans ht.symm))
theorem n8_ (x0 : api_Client) (x1 : Int) (x2 : api_Msg) (h0 : Fit te (.st 4) x0) (_ : Fit te (.int .i64) x1) (h2 : Fit te (.st 2) x2) : e4_ x0 x1 x2 = some true := by
 unfold e4_
 obtain ⟨b, hb, b', e, hs⟩ := two_gates x0 x2
 refine aa_ hb (aa_ e (door h0 (fun h => (hs (by simpa using h)).1) (ac_ rfl gh_) fun h hg hr => ?_))
 cases hP : !(x0.Partial_ == []) with
 | true => exact ac_ rfl gh_
 | false =>
  have hP : x0.Partial_ = [] := by simpa using hP
  refine ab_ rfl ?_
  obtain ⟨v, a1, _, a3, a4, a5⟩ := pO_ x1 hg hr
  refine aa_ a1 ?_
  by_cases hv : v.2.2.2 = 0
  ·obtain ⟨i, x, n, hu, hi, hxt, k0, k8, n1, n2, nf, hv1, hvn⟩ := a5 hv
   refine ab_ (by simpa using hv) ?_
   obtain ⟨s, p1, p2, p3⟩ := rflM_put (n := (n : Int)) (by omega) (by omega)
   have hput : dp_ (api_Msg.mk 109 v.2.1 0 0 0 0 0 [] [] [] [] [] (api_Qid.mk 0 0 0) 0 0 0 [] 0 0 [] (api_Dir.mk 0 0 (api_Qid.mk 0 0 0) 0 0 0 0 [] [] [] []) 0 0 0 []) = some (s, 0) := by rw [hvn]; exact p2
   obtain ⟨w, c1, _, c3, c4, _, _, c7, _, _, c10⟩ := d1_ (s := s) a4 a3 (by omega)
   have hcl : v.1.Calls_ = x0.Calls_.set i ⟨x.Req_, (n : Int)⟩ ++ [⟨bD_ (n : Int) x1, 65535⟩] := by rw [hv1]; rfl
   have hcp : v.1.Partial_ = [] := by rw [hv1]; exact hP
   have hcu : v.1.Up_ = true := by rw [hv1]; exact hu
   have hil := (List.getElem?_eq_some_iff.1 hi).1
   have m1 : (⟨bD_ (n : Int) x1, 65535⟩ : api_Call) ∈ v.1.Calls_ := by rw [hcl]; simp
   have m2 : (⟨x.Req_, (n : Int)⟩ : api_Call) ∈ v.1.Calls_ := by
    rw [hcl]
    exact List.mem_append_left _ (List.mem_iff_getElem?.2 ⟨i, by rw [List.getElem?_set, if_pos rfl, if_pos hil]⟩)
   obtain ⟨l', t1, t2⟩ := take_rfl a3.cv m1 m2 hxt k8 v.1.Msize_ v.1.Session_
   have hms := (msB_iff v.1).1 a3.ms
   have hsp : Spl (dN_ v.1.Msize_) (v.1.Partial_ ++ s) [dB_ (n : Int)] [] := by
    rw [hcp, List.nil_append]
    exact put_spl (nj_ _) p1 (by have := limR_ok hms; omega)
   have hrun : b1_ [dB_ (n : Int)] (v.1.Msize_, v.1.Session_, v.1.Calls_, []) = (0, v.1.Msize_, v.1.Session_, l', [dj_ x.Req_ 56, dB_ (n : Int)]) := by
    simp only [b1_, t1]; rfl
   have hsn : ∀ k : Int, bw_ [] k = some ([], [], 0) := fun k => cH_ (by simp) (.stop rfl)
   have hw0 := c10 _ _ _ hcu hsp hrun (hsn _)
   obtain ⟨ms', rest', t', R⟩ := c7 hw0
   obtain ⟨q1, q2⟩ := spl_two hsp R.spl
   subst q1 q2
   have hR := R.run
   rw [hrun] at hR
   have ht' := (Prod.mk.inj hR).2
   have hres := R.res
   rw [← ht'] at hres
   have w1 : w.1 = ⟨v.1.Up_, v.1.Msize_, v.1.Session_, v.1.Fids_, l', []⟩ := by rw [hres]
   have w2 : w.2.1 = [dj_ x.Req_ 56, dB_ (n : Int)] := by rw [hres]
   have hvm : v.1.Msize_ = x0.Msize_ := by rw [hv1]; rfl
   refine aa_ hput (aa_ c1 (aa_ (a := false) (ab_ (by rw [hw0, w2]; rfl) (aa_ (a := dj_ x.Req_ 56) (by rw [w2]; rfl) (by show some (x.Req_.Tag_ != x1) = _; rw [hxt]; simp))) (aa_ (a := false) (ab_ rfl (aa_ (a := dj_ x.Req_ 56) (by rw [w2]; rfl) rfl)) (ab_ rfl ?_))))
   have hmo : (bL_ x2 x1).ok := pN_ (fit_msg x2 h2) x1
   obtain ⟨y, y1, y2⟩ := lY_ (bL_ x2 x1) hmo
   refine aa_ y2 ?_
   obtain ⟨s', e'⟩ := y
   by_cases he' : e' = 0
   ·subst he'
    refine aa_ (a := cE_ x2.Kind_) (ab_ rfl (aa_ (cX_ _) rfl)) ?_
    cases hq : cE_ x2.Kind_ || ((x0.Msize_ != 0) && (decide ((s'.length : Int) > x0.Msize_))) with
    | true => exact ac_ rfl gh_
    | false =>
     refine ab_ rfl ?_
     obtain ⟨g1, g2, _⟩ := put_get hmo y1
     obtain ⟨u, d1, _, _, _, _, _, _, _, d9, _⟩ := d1_ (s := s') c4 c3 (by omega)
     have hlim : (s'.length : Int) ≤ dN_ w.1.Msize_ := by
      rw [w1]
      show _ ≤ dN_ v.1.Msize_
      rw [hvm]
      rw [Bool.or_eq_false_iff] at hq
      unfold dN_
      rcases (by rw [hvm] at hms; exact hms : msOK x0.Msize_) with h5 | h5
      ·rw [if_pos (.inl h5)]; omega
      ·have h6 : (x0.Msize_ != 0) = true := by simp; omega
       rw [h6, Bool.true_and, decide_eq_false_iff_not] at hq
       rw [if_neg (by omega)]; omega
     have hsp2 : Spl (dN_ w.1.Msize_) (w.1.Partial_ ++ s') [bL_ x2 x1] [] := by
      have : w.1.Partial_ = [] := by rw [w1]
      rw [this, List.nil_append]
      exact put_spl hmo y1 hlim
     have hcu2 : w.1.Up_ = true := by rw [w1]; exact hcu
     have hl' : w.1.Calls_ = l' := by rw [w1]
     have hrun2 : b1_ [bL_ x2 x1] (w.1.Msize_, w.1.Session_, w.1.Calls_, []) = (17, w.1.Msize_, w.1.Session_, w.1.Calls_, []) := by
      have : dv_ w.1.Msize_ w.1.Session_ w.1.Calls_ (bL_ x2 x1) = .inl 17 := by
       unfold dv_
       rw [hl']
       rcases fb_ (l := l') (bL_ x2 x1).Tag_ with ⟨f1, _⟩ | ⟨_, z, _, _, f3, f4⟩
       ·rw [f1]
       ·exact absurd f4 (t2 z (List.mem_of_getElem? f3))
      simp only [b1_, this]
     obtain ⟨r1, r2⟩ := d9 _ _ _ _ hcu2 hsp2 hrun2 (by decide)
     exact aa_ d1 (aa_ (a := true) (ac_ (by rw [r1, r2]; rfl) gh_) rfl)
   ·have hb' : (e' != 0) = true := by simpa using he'
    exact aa_ (a := true) (ac_ hb' rfl) (ac_ rfl gh_)
  ·exact ac_ (by simpa using hv) gh_
end Go.Proofs.YtolgkhjkdadhiaaGreat
