/-
  The second engine: lists of operations, some of them guarded, carried out in the order of their text. No program in sight.
-/
import Derived.Test.YtboplmpnjepdnaaGreatSa
namespace Go
namespace Rt
open Go.RowKit

variable {P : Program} {E : TE} {eqs : List (Nat × Nat)} {tab : Tab E} {N : Nat} {Bs : List Nat} {F0 : Org} {w0 : World}
theorem new_L (b : Ba E) (s : St E) (nx : Nat) : (St.new nx).L (s.base b) = s.L b := rfl
theorem new_H (b : Ba E) (s : St E) (nx : Nat) : (St.new nx).H (s.base b) = s.H b := rfl
theorem memN_true {t : Nat} : ∀ {l : List Nat}, memN t l = true ↔ t ∈ l
  | [] => by simp [memN]
  | u :: l => by
    simp only [memN]
    split
    · rename_i hb
      obtain rfl := Nat.eq_of_beq_eq_true hb
      simp
    · rename_i hb
      have := beq_false hb
      rw [memN_true]
      simp [this]
theorem keysIn_get {ds : List Nat} {t : Nat} : ∀ {l : List (Nat × Option (SV E))}, keysIn ds l = true → memN t ds = false → aget t l = none
  | [], _, _ => rfl
  | p :: l, h, ht => by
    simp only [keysIn, Bool.and_eq_true] at h
    simp only [aget]
    split
    · rename_i hb
      obtain rfl := Nat.eq_of_beq_eq_true hb
      rw [h.1] at ht; cases ht
    · exact keysIn_get h.2 ht
theorem keysFrom_look {f : Nat → Option (Obj E)} {n i : Nat} (hi : i < n) : ∀ {l : Chs E}, keysFrom n l = true → upH f l i = f i
  | [], _ => rfl
  | p :: l, h => by
    simp only [keysFrom, Bool.and_eq_true] at h
    have := Nat.le_of_ble_eq_true h.1
    simp only [upH]
    split
    · rename_i hb
      have := Nat.eq_of_beq_eq_true hb
      omega
    · exact keysFrom_look hi h.2
theorem skip_dst {idx d : Nat} {w : Bool} : ∀ {l : List Oper} {i : Nat}, skipB idx d w l i = true → memN d (dsts l) = false
  | [], _, _ => rfl
  | o :: l, i, h => by
    simp only [skipB, Bool.and_eq_true] at h
    obtain ⟨h1, h2⟩ := h
    split at h1
    · rename_i j w' d' hg hd
      simp only [Bool.and_eq_true, Bool.not_eq_true'] at h1
      simp only [dsts, hd, memN]
      rw [h1.2]
      exact skip_dst h2
    · cases h1
theorem clear_in {t : Nat} : ∀ {ds : List Nat} {l : List (Nat × Option (SV E))}, memN t ds = true → aget t (clear ds ++ l) = some none
  | [], _, h => by simp [memN] at h
  | d :: ds, l, h => by
    unfold clear
    simp only [List.map_cons, List.cons_append, aget]
    by_cases hb : Nat.beq t d = true
    · rw [hb]
    · rw [Bool.not_eq_true] at hb
      rw [hb]
      refine clear_in (ds := ds) ?_
      simpa only [memN, hb] using h
theorem clear_out {t : Nat} : ∀ {ds : List Nat} {l : List (Nat × Option (SV E))}, memN t ds = false → aget t (clear ds ++ l) = aget t l
  | [], _, _ => rfl
  | d :: ds, l, h => by
    unfold clear
    simp only [List.map_cons, List.cons_append, aget]
    by_cases hb : Nat.beq t d = true
    · simp [memN, hb] at h
    · rw [Bool.not_eq_true] at hb
      rw [hb]
      refine clear_out (ds := ds) ?_
      simpa only [memN, hb] using h
/-- Slots, some of them forgotten. -/
def without (ds : List Nat) (L : Nat → Option (SV E)) (t : Nat) : Option (SV E) := if memN t ds then none else L t
theorem gdOK_after {all : List Oper} {gd : Gd} {o : Oper} {L L' : Nat → Option (SV E)} (h : gdOK all gd L) (hd : dstOK o gd = true) (hL : ∀ t, (∀ d, o.dst = some d → t ≠ d) → L' t = L t) : gdOK all gd L' := by
  unfold gdOK at *
  split
  · trivial
  · rename_i j w d
    obtain ⟨h1, c, h2, h3⟩ := h
    refine ⟨h1, c, ?_, h3⟩
    rw [hL d fun d' hd' => ?_]
    · exact h2
    · unfold dstOK at hd
      simp only [hd', Bool.not_eq_true'] at hd
      exact beq_false hd
theorem drop_next {all l tl : List Oper} {o : Oper} {i : Nat} (h : all.drop i = (o :: l) ++ tl) : all[i]? = some o ∧ all.drop (i + 1) = l ++ tl := by
  constructor
  · have : (all.drop i)[0]? = some o := by rw [h]; rfl
    rw [List.getElem?_drop] at this
    simpa using this
  · have := congrArg (List.drop 1) h
    rw [List.drop_drop] at this
    simpa [Nat.add_comm] using this
theorem drop_more {all l m tl : List Oper} {i : Nat} (h : all.drop i = (l ++ m) ++ tl) : all.drop (i + l.length) = m ++ tl := by
  have := congrArg (List.drop l.length) h
  rw [List.drop_drop, List.append_assoc, List.drop_left] at this
  exact this
theorem pick_run {o : Oper} {d : Nat} {x y : Operand} {ρ : Operand → Value} {c e : Bool} (ho : o.op = .pick (.tmp d) x y) (hd : ρ (.tmp d) = .bool c) (hv : (bif c then ρ x else ρ y) = .bool e) (w : World) : (execOp ρ o).run P w = .ok (.value (.bool e)) w := by
  unfold execOp
  rw [ho]
  simp only [hd]
  cases c with
  | true => simp only [cond_true] at hv; simp [asBool, hv]
  | false => simp only [cond_false] at hv; simp [asBool, hv]
theorem evList_ok {ev : Ev E} {all : List Oper} (wk : Walk P E ev N Bs F0 w0 all) : ∀ (n : Nat) {R : Type} {gd : Gd} {l : List Oper} {idx : Nat} {b : Ba E} {s : St E} {k : St E → Option R} {r : R} {a : Act} {w : World} {J : Act → World → Prop} {tl : List Oper},
    evList P E ev N n R gd l idx b s k = some r → all.drop idx = l ++ tl → Rel P E Bs F0 w0 N (s.L b) (s.H b) s.nx a w → gdOK all gd (s.L b) →
    (∀ s' a' w', k s' = some r → Rel P E Bs F0 w0 N (s'.L b) (s'.H b) s'.nx a' w' → gdOK all gd (s'.L b) → J a' w') → wk.W J l idx a w := by
  intro n
  induction n with
  | zero => intro R gd l idx b s k r a w J tl h; cases h
  | succ n ih =>
    intro R gd l idx b s k r a w J tl h hd hR hg hK
    cases l with
    | nil => exact wk.nil (hK s a w h hR hg)
    | cons o rest =>
      unfold evList at h
      split at h
      · cases h
      · rename_i hgo
        simp only [Bool.and_eq_true] at hgo
        obtain ⟨z, g, hE, hH, hf, hz0, hg0⟩ := hR
        obtain ⟨hdo, hdr⟩ := drop_next hd
        refine wk.step hdo (guard_wanted hgo.1 hg hE) hE hH hf hz0 hg0 h fun v u x w' z2 g2 hk hz2 hg2 hE2 hH2 hf2 hv => ?_
        split at hk
        · cases hk
        · rename_i s1 hs1
          obtain ⟨hR1, hL1⟩ := after_ok hs1 hE2 hH2 (hz0.trans hz2) (hg0.trans hg2) hf2 hv
          have hg1 := gdOK_after hg hgo.2 hL1
          split at hk
          · exact ih hk hdr hR1 hg1 hK
          · rename_i d wt body pk rest' hgrp
            obtain ⟨hod, rfl, x0, y0, hpk⟩ := groupOf_eq hgrp
            split at hk
            · rename_i c d1 x y pd hc hpo hpd
              rw [hpk] at hpo
              injection hpo with e1 e2 e3
              subst e1; subst e2; subst e3
              split at hk
              · cases hk
              · rename_i hchk
                simp only [Bool.and_eq_true] at hchk
                obtain ⟨⟨⟨⟨⟨hp1, hp2⟩, hp3⟩, hp4⟩, hp5⟩, hp6⟩ := hchk
                have hdd : memN d (dsts body) = false := skip_dst hp5
                -- the group's value
                have hres : ∃ res, evList P E ev N n R gd rest' (idx + 1 + body.length + 1) b { s1 with env := (pd, some (boolSV res)) :: (clear (dsts body) ++ s1.env), nx := s1.nx + roomG body } k = some r ∧
                    (c = wt → evList P E ev N n Bool (some (idx, wt, d)) body (idx + 1) (s1.base b) (St.new s1.nx) (groupEnd (s1.base b) s1.nx (roomG body) (dsts body) (picked wt x0 y0)) = some res) ∧ (c ≠ wt → res = !wt) := by
                  obtain ⟨tot, htot⟩ : ∃ tot, totalL P body = tot := ⟨_, rfl⟩
                  rw [htot] at hk
                  cases tot with
                  | true =>
                    simp only at hk
                    obtain ⟨oe, he⟩ : ∃ oe, evList P E ev N n Bool (some (idx, wt, d)) body (idx + 1) (s1.base b) (St.new s1.nx) (groupEnd (s1.base b) s1.nx (roomG body) (dsts body) (picked wt x0 y0)) = oe := ⟨_, rfl⟩
                    rw [he] at hk ⊢
                    cases oe with
                    | none => cases hk
                    | some e =>
                      refine ⟨_, hk, fun hcw => ?_, fun hcw => ?_⟩
                      · cases wt <;> subst hcw <;> rfl
                      · cases wt <;> cases c <;> simp_all [picked]
                  | false =>
                    simp only at hk
                    obtain ⟨e, he, hk⟩ := bind_some hk
                    refine ⟨e, hk, fun hcw => ?_, fun hcw => ?_⟩
                    · cases wt <;> subst hcw <;> exact he
                    · cases wt <;> cases c <;> simp_all [picked]
                obtain ⟨res, hk2, hact, hinact⟩ := hres
                have hlt : ∀ j p, s1.H b j = some p → j < s1.nx := fun j p hj => by
                  obtain ⟨z3, g3, _, h2, h3, _⟩ := hR1
                  obtain ⟨l, hl⟩ := (h2.hold j p hj).loc
                  rcases Nat.lt_or_ge j s1.nx with h5 | h5
                  · exact h5
                  · rw [h3 j h5] at hl; cases hl
                refine wk.app (J1 := fun a2 w2 => Rel P E Bs F0 w0 N (without (dsts body) (s1.L b)) (s1.H b) (s1.nx + roomG body) a2 w2 ∧ a2.eval (.tmp d) = .bool c ∧ (bif c then a2.eval x0 else a2.eval y0) = .bool res) ?_ ?_
                · by_cases hcw : c = wt
                  · refine ih (tl := pk :: rest' ++ tl) (hact hcw) (by rw [hdr]; simp) (by rw [new_L, new_H]; exact hR1) ⟨⟨o, hdo, hod⟩, c, hc, hcw⟩ fun s2 a2 w2 hk3 hR2 hg2 => ?_
                    unfold groupEnd at hk3
                    split at hk3
                    · rename_i e hchk2 hvis hhvis hop
                      obtain rfl := Option.some.inj hk3
                      simp only [Bool.and_eq_true] at hchk2
                      obtain ⟨⟨hk4, hk5⟩, hk6⟩ := hchk2
                      have hLs : ∀ t, memN t (dsts body) = false → s2.L (s1.base b) t = s1.L b t := fun t htd => by
                        unfold St.L
                        rw [keysIn_get hk4 htd, hvis]
                        rfl
                      have hHs : ∀ j, j < s1.nx → s2.H (s1.base b) j = s1.H b j := fun j hj => by
                        unfold St.H
                        rw [keysFrom_look hj hk5, hhvis]
                        rfl
                      obtain ⟨z3, g3, hE3, hH3, hf3, ho3⟩ := hR2
                      refine ⟨⟨z3, g3, hE3.less fun t u hu => ?_, hH3.less fun j p hj => ?_, (fun i hi => hf3 i (by have := Nat.le_of_ble_eq_true hk6; omega)), ho3⟩, ?_, ?_⟩
                      · unfold without at hu
                        split at hu
                        · cases hu
                        · rename_i hm
                          rw [hLs t (by simpa using hm)]; exact hu
                      · rw [hHs j (hlt j p hj)]; exact hj
                      · have := hE3.op (.tmp d) (.v (.one (.dt .bool c))) (by show s2.L (s1.base b) d = _; rw [hLs d hdd]; exact hc)
                        exact SV.bool_ok rfl this
                      · have := SV.bool_ok rfl (hE3.op _ _ hop)
                        subst hcw
                        cases c <;> exact this
                    · cases hk3
                  · obtain ⟨z3, g3, hE3, hH3, hf3, ho3⟩ := hR1
                    have hcv : ∃ v, (a.put o.dst x).tmps[d]? = some v ∧ RV P E z3 g3 (.v (.one (.dt .bool c))) v := hE3.get d _ hc
                    obtain ⟨v, hv1, hv2⟩ := hcv
                    obtain rfl := SV.bool_ok rfl hv2
                    refine skip_ok wk hcw hdo hod body (pk :: rest' ++ tl) (idx + 1) _ w' (by rw [hdr]; simp) (Nat.lt_succ_self idx) hp5 hv1 (fun j h5 h6 => by omega) fun a' h5 h6 h7 => ?_
                    refine ⟨⟨z3, g3, ⟨by rw [h5]; exact hE3.size, by rw [h6]; exact hE3.defers, fun t u hu => ?_⟩, hH3, (fun i hi => hf3 i (by omega)), ho3⟩, ?_, ?_⟩
                    · unfold without at hu
                      split at hu
                      · cases hu
                      · rename_i hm
                        rw [h7 t (by simpa using hm)]
                        exact hE3.get t u hu
                    · have h8 := h7 d hdd
                      rw [hv1] at h8
                      simp [Act.eval, h8]
                    · have hcc : ∀ {q : Operand}, isBoolC (!wt) q = true → a'.eval q = .bool (!wt) := fun {q} hq => by
                        unfold isBoolC at hq
                        split at hq
                        · rename_i b'
                          show Value.bool b' = _
                          cases wt <;> cases b' <;> simp_all
                        · cases hq
                      rw [hinact hcw]
                      have := hcc hp6
                      cases wt <;> cases c <;> simp_all [picked]
                · rintro a2 w2 ⟨hR2, hv1, hv2⟩
                  have hdp : all.drop (idx + 1 + body.length) = (pk :: rest') ++ tl := drop_more hdr
                  obtain ⟨hpi, hpr⟩ := drop_next hdp
                  have hg2 : gdOK all gd (without (dsts body) (s1.L b)) := by
                    unfold gdOK at hg1 ⊢
                    split
                    · trivial
                    · rename_i j w1 d1
                      obtain ⟨h1, c1, h2, h3⟩ := hg1
                      refine ⟨h1, c1, ?_, h3⟩
                      unfold notIn at hp3
                      simp only [Bool.not_eq_true'] at hp3
                      unfold without
                      rw [hp3]
                      exact h2
                  obtain ⟨z3, g3, hE3, hH3, hf3, ho3⟩ := hR2
                  refine wk.pick hpi (guard_wanted hp1 hg2 hE3) (fun w => pick_run hpk hv1 hv2 w) ?_
                  have hLs : ∀ t, St.L b { s1 with env := (pd, some (boolSV res)) :: (clear (dsts body) ++ s1.env), nx := s1.nx + roomG body } t = if t = pd then some (boolSV res) else without (dsts body) (s1.L b) t := fun t => by
                    unfold St.L without
                    simp only [aget]
                    by_cases htp : t = pd
                    · subst htp
                      have : Nat.beq t t = true := by simp
                      rw [this, if_pos rfl]
                    · rw [if_neg htp]
                      have : Nat.beq t pd = false := by
                        cases hb : Nat.beq t pd with
                        | false => rfl
                        | true => exact absurd (Nat.eq_of_beq_eq_true hb) htp
                      rw [this]
                      by_cases hm : memN t (dsts body) = true
                      · rw [clear_in hm, if_pos hm]
                      · rw [clear_out (by simpa using hm), if_neg hm]
                  refine ih hk2 hpr ⟨z3, g3, ?_, hH3, hf3, ho3⟩ ?_ hK
                  · rw [hpd]
                    refine hE3.put hp4 (s := boolSV res) (RD.bool .nil) fun t u hu => ?_
                    rw [hLs t] at hu
                    split at hu
                    · rename_i htp; exact .inl ⟨htp, (Option.some.inj hu).symm⟩
                    · rename_i htp; exact .inr ⟨htp, hu⟩
                  · refine gdOK_after hg2 hp2 fun t ht => ?_
                    rw [hLs t, if_neg (ht pd hpd)]
            · cases hk
/-- The walk in the order of the text. -/
def seqWalk (heq : ∀ p ∈ eqs, EqFact P E p.1 p.2) (ht : tab.OK P E) (all : List Oper) : Walk P E (fun L H nx o _ k => evOp P E eqs tab L H nx o k) N Bs F0 w0 all where
  W J l _ a w := ∀ (rest : List Oper) (Q : Exit → Act → World → Prop), (∀ a' w', J a' w' → wpList P all.toArray Q rest a' w') → wpList P all.toArray Q (l ++ rest) a w
  nil hJ := fun rest Q h => h _ _ hJ
  app h1 h2 := fun rest Q h => by
    rw [List.append_assoc]
    exact h1 _ Q fun a' w' hJ => h2 a' w' hJ rest Q h
  skip ho hw h1 := fun rest Q h => by
    simp only [List.cons_append]
    unfold wpList
    rw [if_neg (by rw [hw]; exact Bool.false_ne_true)]
    exact h1 rest Q h
  step ho hw hE hH hf hz hg hev hk := fun rest Q h => by
    simp only [List.cons_append]
    refine wpList_step fun K hK' => ?_
    rw [if_pos hw]
    exact evOp_ok heq ht hf hE hH hev fun v u x w' z2 g2 h1 h2 h3 h4 h5 h6 h7 => hK' _ _ (hk v u x w' z2 g2 h1 h2 h3 h4 h5 h6 h7 rest Q h)
  pick ho hw hr h1 := fun rest Q h => by
    simp only [List.cons_append]
    refine wpList_step fun K hK' => ?_
    rw [if_pos hw]
    unfold Oper.wp
    rw [hr _]
    exact hK' _ _ (h1 rest Q h)
theorem evReg_ok (heq : ∀ p ∈ eqs, EqFact P E p.1 p.2) (ht : tab.OK P E) {R : Type} {l : List Oper} {id : Nat} {b : Ba E} {s : St E} {k : St E → Option R} {r : R} {a : Act} {w : World} {Q : Exit → Act → World → Prop} (h : evReg P E eqs tab N l b s k = some r) (hR : Rel P E Bs F0 w0 N (s.L b) (s.H b) s.nx a w)
    (hK : ∀ s' a' w', k s' = some r → Rel P E Bs F0 w0 N (s'.L b) (s'.H b) s'.nx a' w' → Q .normal a' w') : (Code.region id l.toArray false).wp P Q a w :=
  r_list (by
    have := evList_ok (seqWalk heq ht l) _ (tl := []) (J := fun a' w' => Q .normal a' w') h (by simp) hR trivial fun s' a' w' h1 h2 _ => hK s' a' w' h1 h2
    have := this [] Q fun a' w' h => h
    simpa using this)
end Rt
end Go
