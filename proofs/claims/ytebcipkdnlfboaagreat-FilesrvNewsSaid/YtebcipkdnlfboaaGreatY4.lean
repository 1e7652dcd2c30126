/-
  What the statements of this seat hang on, part 4: Sr Sc Sd Se Sf Sg Sh Si Sj Sk St Sn Open So.
-/
import Derived.Test.YtebcipkdnlfboaaGreatY3
import Derived.Deep.Slices
import Derived.ChangeSame
import Derived.ProofKit
import Derived.OpenShut
namespace Go
namespace Rt
open Go.RowKit
variable {P : Program} {E : TE} {eqs : List (Nat × Nat)} {tab : Tab E} {N : Nat} {Bs : List Nat} {F0 : Org} {w0 : World}
structure Apart1 (w0 : World) (z : Fz) (g : Ga) (H : Nat → Option (Obj E)) (w : World) (q : Nat) (o : Go.Obj) : Prop where
  at_ : w.heap[q]? = some o
  new : w0.heap.size ≤ q
  fp : ∀ id p k, H id = some p → fpO g id p k → k ≠ q
  fz : ¬ z.F q
def RelF (P : Program) (E : TE) (Bs : List Nat) (F0 : Org) (w0 : World) (N : Nat) (d q : Nat) (o : Go.Obj) (L : Nat → Option (SV E)) (H : Nat → Option (Obj E)) (nx : Nat) (a : Act) (w : World) : Prop :=
  ∃ z g, ER P E z g N a L ∧ HR P E Bs F0.z.F w0 w z g H ∧ Fresh g nx ∧ F0.z.Le z ∧ F0.g.Le g ∧ Apart1 w0 z g H w q o ∧ a.tmps[d]? = some (.pointer (some ⟨q, 0, none⟩))
theorem Apart1.ext {z : Fz} {g : Ga} {H : Nat → Option (Obj E)} {w w' : World} {q : Nat} {o : Go.Obj} (h : Apart1 w0 z g H w q o) (hx : Ext w w') : Apart1 w0 z g H w' q o := by
  have hlt : q < w.heap.size := (Array.getElem?_eq_some_iff.1 h.at_).1
  exact ⟨(hx.below.block q hlt).trans h.at_, h.new, h.fp, h.fz⟩
theorem RelF.ext {d q : Nat} {o : Go.Obj} {L : Nat → Option (SV E)} {H : Nat → Option (Obj E)} {nx : Nat} {a : Act} {w w' : World} (h : RelF P E Bs F0 w0 N d q o L H nx a w) (hx : Ext w w') : RelF P E Bs F0 w0 N d q o L H nx a w' :=
  let ⟨z, g, h1, h2, h3, h4, h5, h6, h7⟩ := h
  ⟨z, g, h1, h2.ext hx, h3, h4, h5, h6.ext hx, h7⟩
theorem evOp_frame (heq : ∀ p ∈ eqs, EqFact P E p.1 p.2) (ht : tab.OK P E) {R : Type} {r : R} {z : Fz} {g : Ga} {L : Nat → Option (SV E)} {H : Nat → Option (Obj E)} {nx : Nat} {a : Act} {w : World} {o : Oper} {K : Act → World → Prop} {Q : Exit → Act → World → Prop} {k : Option (SV E) → Chs E → Option R} {q : Nat} {ob : Go.Obj}
    (hnx : Fresh g nx) (hE : ER P E z g N a L) (hH : HR P E Bs F0.z.F w0 w z g H) (hap : Apart1 w0 z g H w q ob) (h : evOp P E eqs tab L H nx o k = some r)
    (hK : ∀ s u v w' z2 g2, k s u = some r → z.Le z2 → g.Le g2 → ER P E z2 g2 N a L → HR P E Bs F0.z.F w0 w' z2 g2 (upH H u) → Fresh g2 (nxU nx u) → (∀ sv, s = some sv → RV P E z2 g2 sv v) → (makesB tab L o = true → Ext w w') → Apart1 w0 z2 g2 (upH H u) w' q ob → K (a.put o.dst v) w') : o.wp P a w K Q := by
  have hlt : ∀ i p, H i = some p → i < nx := fun i p e => by
    obtain ⟨l', hl⟩ := (hH.hold i p e).loc
    rcases Nat.lt_or_ge i nx with h5 | h5
    · exact h5
    · rw [hnx i h5] at hl; cases hl
  let B : List Nat := ((List.range nx).map (blk H g)).flatten
  have hB : ∀ i p k, H i = some p → fpO g i p k → k ∈ B := fun i p k e hk => List.mem_flatten.2 ⟨_, List.mem_map.2 ⟨i, List.mem_range.2 (hlt i p e), rfl⟩, mem_blk.2 ⟨p, e, hk⟩⟩
  have hB' : ∀ k, k ∈ B → ∃ i p, i ∈ List.range nx ∧ H i = some p ∧ fpO g i p k := fun k hk => by
    obtain ⟨_, i, p, h4, h5, h6⟩ := mem_blks hk
    exact ⟨i, p, List.mem_range.2 (hlt i p h5), h5, h6⟩
  have hqB : q ∉ B := fun hq => by
    obtain ⟨i, p, _, h5, h6⟩ := hB' q hq
    exact hap.fp i p q h5 h6 rfl
  have hqlt : q < w.heap.size := (Array.getElem?_eq_some_iff.1 hap.at_).1
  have hp := hH.part (fun _ _ e => e) hB
  refine evOp_ok2 (Bs := B) (F0 := z.F) (w0 := w) heq ht hnx hE hp h fun s u v w' z2 g2 hk hz2 hg2 hE2 hH2 hf2 hv hmk => ?_
  refine hK s u v w' z2 g2 hk hz2 hg2 hE2 ?_ hf2 hv hmk ⟨?_, hap.new, fun id p k he hfp => ?_, fun hz => ?_⟩
  · refine hH.back (I := List.range nx) (s := fun j i => j = i) hH2 (fun k hk => ?_) hg2 (fun j p hj => .inl ⟨j, rfl, hj⟩) (fun j j' i h7 h8 => h7.trans h8.symm) (fun j i p h7 h8 => by subst h7; exact ⟨hH2.hold _ _ h8, fun _ => Iff.rfl⟩) hz2 hH2.fz fun k hk => ?_
    · exact hB' k hk
    · rcases hH2.fz0 k hk with h7 | h7 | h7
      · exact .inl h7
      · exact .inr ⟨.inl h7, hk⟩
      · exact .inr ⟨.inr h7, hk⟩
  · exact (hH2.chg.block q hqlt hqB).trans hap.at_
  · rcases hH2.own id p k he hfp with h7 | h7
    · omega
    · intro e; subst e; exact hqB h7
  · rcases hH2.fz0 q hz with h7 | h7 | h7
    · exact hap.fz h7
    · omega
    · exact hqB h7
theorem HR.adopt {z : Fz} {g : Ga} {H : Nat → Option (Obj E)} {F : Nat → Prop} {w : World} {q n : Nat} {T : TypeId} {cs : List (SC E)} {vs : List Value} (hH : HR P E Bs F w0 w z g H) (hn : g n = none) (hap : Apart1 w0 z g H w q (.cells vs.toArray T (0, 0))) (hcs : All2 (RC P E z g) cs vs) :
    HR P E Bs F w0 w z (g.put n ⟨none, 0, 0, 0, q, 0⟩) (upH H [(n, some (.box T cs))]) := by
  have hle := Ga.le_put (l := ⟨none, 0, 0, 0, q, 0⟩) hn
  have hG := hH.ga hle
  have hself := Ga.put_self g n ⟨none, 0, 0, 0, q, 0⟩
  have hfp : ∀ k, fpO (g.put n ⟨none, 0, 0, 0, q, 0⟩) n (Obj.box T cs : Obj E) k → k = q := fun k hk => by
    obtain ⟨l, h1, h2⟩ := hk
    rw [hself] at h1; obtain rfl := Option.some.inj h1
    exact h2
  have hold : ∀ j p k, H j = some p → fpO (g.put n ⟨none, 0, 0, 0, q, 0⟩) j p k → k ≠ q := fun j p k e hk => hap.fp j p k e ((fpO_le (hH.hold j p e).loc hle).1 hk)
  refine ⟨hG.chg, fun j p e => ?_, fun j p k e hk => ?_, fun j j' p p' k hj e e' hk hk' => ?_, hG.fz, hG.fz0, fun j p k e hk hz => ?_⟩
  · rcases upH_one e with ⟨rfl, rfl⟩ | ⟨_, h2⟩
    · exact ⟨_, vs, hself, hap.at_, hcs.mono fun _ _ h => RC.le h (Fz.Le.refl z) hle⟩
    · exact hG.hold j p h2
  · rcases upH_one e with ⟨rfl, rfl⟩ | ⟨_, h2⟩
    · rw [hfp k hk]; exact .inl hap.new
    · exact hG.own j p k h2 hk
  · rcases upH_one e with ⟨rfl, rfl⟩ | ⟨_, h2⟩ <;> rcases upH_one e' with ⟨rfl, rfl⟩ | ⟨_, h2'⟩
    · exact hj rfl
    · exact hold j' p' k h2' hk' (hfp k hk)
    · exact hold j p k h2 hk (hfp k hk')
    · exact hG.apart j j' p p' k hj h2 h2' hk hk'
  · rcases upH_one e with ⟨rfl, rfl⟩ | ⟨_, h2⟩
    · rw [hfp k hk] at hz; exact hap.fz hz
    · exact hG.fza j p k h2 hk hz
theorem put_same {a : Act} {d : Nat} {v : Value} (h : a.tmps[d]? = some v) : a.put (some d) v = a := by
  unfold Act.put
  have : a.tmps.setIfInBounds d v = a.tmps := by
    apply Array.ext_getElem?
    intro i
    rw [Array.getElem?_setIfInBounds]
    split
    · rename_i hi; subst hi
      split
      · exact h.symm
      · rename_i hlt; rw [Array.getElem?_eq_none (by omega)]
    · rfl
  simp only [this]
theorem put_other {a : Act} {d : Nat} {o : Oper} {v u : Value} (h : a.tmps[d]? = some v) (hd : o.dst ≠ some d) : (a.put o.dst u).tmps[d]? = some v := by
  unfold Act.put
  split
  · rename_i e he
    rw [Array.getElem?_setIfInBounds]
    split
    · rename_i hi; subst hi; exact absurd he hd
    · exact h
  · exact h
theorem memN_dstsT {d : Nat} : ∀ {l : List (Nat × Oper × Nat)}, memN d (dstsT l) = false → ∀ t ∈ l, t.2.1.dst ≠ some d
  | [], _, _, h => by cases h
  | t0 :: l, hm, t, h => by
    simp only [dstsT] at hm
    cases hd : t0.2.1.dst with
    | none =>
      rw [hd] at hm
      rcases List.mem_cons.1 h with rfl | h
      · rw [hd]; exact fun e => nomatch e
      · exact memN_dstsT hm t h
    | some d' =>
      rw [hd] at hm
      simp only [memN] at hm
      have hne : Nat.beq d d' = false := by
        cases hb : Nat.beq d d' with
        | true => rw [hb] at hm; cases hm
        | false => rfl
      rw [hne] at hm
      rcases List.mem_cons.1 h with rfl | h
      · rw [hd]; intro e; obtain rfl := Option.some.inj e; exact beq_false hne rfl
      · exact memN_dstsT hm t h
theorem after_okF {b : Ba E} {s s1 : St E} {o : Oper} {v : Option (SV E)} {u : Chs E} {a : Act} {w' : World} {x : Value} {z : Fz} {g : Ga} {d q : Nat} {ob : Go.Obj} (h : s.after N o v u = some s1) (hE : ER P E z g N a (s.L b)) (hH : HR P E Bs F0.z.F w0 w' z g (upH (s.H b) u)) (hz0 : F0.z.Le z) (hg0 : F0.g.Le g) (hf : Fresh g (nxU s.nx u)) (hv : ∀ sv, v = some sv → RV P E z g sv x)
    (hap : Apart1 w0 z g (upH (s.H b) u) w' q ob) (hd : (a.put o.dst x).tmps[d]? = some (.pointer (some ⟨q, 0, none⟩))) : RelF P E Bs F0 w0 N d q ob (s1.L b) (s1.H b) s1.nx (a.put o.dst x) w' := by
  obtain ⟨⟨h1, h2, h3, h4⟩, _⟩ := after_ok2 h hE hH hf hv
  exact ⟨z, g, h1, h2, h3, hz0, hg0, by rw [h4]; exact hap, hd⟩
theorem evB_early (heq : ∀ p ∈ eqs, EqFact P E p.1 p.2) (ht : tab.OK P E) {I : World → Prop} (hIx : ∀ w w', I w → Ext w w' → I w') {R : Type} {r : R} {all : List Oper} {tl fr : List Nat} {Q : Exit → Act → World → Prop} {b : Ba E} {k : St E → Option R}
    (hK : ∀ s' a' w', k s' = some r → Rel P E Bs F0 w0 N (s'.L b) (s'.H b) s'.nx a' w' → Q .normal a' w') {fi d T : Nat} {fo : Oper} {post : List (Nat × Oper × Nat)} {zs : List Value} {q : Nat} (hfa : fo.op = .alloc T) (hfg : fo.guard = none) (hfd : fo.dst = some d) (hz : zeroOf P T = some zs) (hpost : ∀ t ∈ post, all[t.1]? = some t.2.1 ∧ (t.2.2 = 2 → t.1 ∈ tl)) : ∀ {pre : List (Nat × Oper × Nat)} {s : St E} {a : Act} {w : World},
    evB P E eqs tab N false b (pre ++ (fi, fo, 1) :: post) s k = some r → (∀ t ∈ pre, all[t.1]? = some t.2.1 ∧ (t.2.2 = 2 → t.1 ∈ tl)) → (∀ t ∈ pre, t.2.1.dst ≠ some d) → RelF P E Bs F0 w0 N d q (.cells zs.toArray T (0, 0)) (s.L b) (s.H b) s.nx a w → wpMixI P all.toArray tl fr I Q (trOrd pre ++ trOrd post) a w
  | [], s, a, w, h, _, _, hR => by
    obtain ⟨z, g, hE, hH, hfr, hz0, hg0, hap, hd⟩ := hR
    rw [List.nil_append] at h
    unfold evB at h
    simp only [hfg] at h
    have hq1 : quietM 1 = false := rfl
    rw [hq1] at h
    simp only at h
    split at h
    · cases h
    · unfold evOp at h
      simp only [hfa] at h
      unfold lAlloc at h
      split at h
      · rename_i cs hcs
        obtain ⟨zs', hz', hrel⟩ := zeroC_ok (z := z) (g := g) hcs
        rw [hz] at hz'
        obtain rfl := Option.some.inj hz'
        simp only at h
        split at h
        · rename_i s1 hs1
          have hA := hH.adopt hfr.self hap hrel
          have hle := Ga.le_put (l := ⟨none, 0, 0, 0, q, 0⟩) hfr.self
          obtain ⟨hR1, _⟩ := after_ok (F0 := F0) (x := .pointer (some ⟨q, 0, none⟩)) hs1 (hE.le (Fz.Le.refl z) hle) hA hz0 (hg0.trans hle) (Fresh.nxU fun i hi => by
            have := hfr.put (⟨none, 0, 0, 0, q, 0⟩ : Loc) i (by simp at hi; omega)
            exact this) (fun sv e => by obtain rfl := Option.some.inj e; exact ⟨_, Ga.put_self _ _ _, rfl⟩)
          rw [hfd, put_same hd] at hR1
          exact evB_ok (fm := false) heq ht hIx (fun e => by cases e) hK h hpost hR1
        · cases h
      · cases h
  | (i, o, f) :: pre, s, a, w, h, hall, hds, hR => by
    obtain ⟨ho, htl⟩ := hall _ (List.mem_cons_self ..)
    have hall' : ∀ t ∈ pre, all[t.1]? = some t.2.1 ∧ (t.2.2 = 2 → t.1 ∈ tl) := fun t ht => hall t (List.mem_cons_of_mem _ ht)
    have hds' : ∀ t ∈ pre, t.2.1.dst ≠ some d := fun t ht => hds t (List.mem_cons_of_mem _ ht)
    have hod : o.dst ≠ some d := hds _ (List.mem_cons_self ..)
    simp only at ho htl
    rw [List.cons_append] at h
    unfold evB at h
    split at h
    · cases h
    · rename_i hgd
      simp only [trOrd, List.cons_append]
      split at h
      · rename_i hf0
        rw [hf0]
        obtain ⟨z, g, hE, hH, hfr, hz0, hg0, hap, hd⟩ := hR
        obtain ⟨sv, v, up, g2, hk, hgl, hgn, hv, hrun, hup⟩ := qFree_ok (nx := s.nx) heq hE.op (hH.less (H' := fun _ => none) fun _ _ e => by cases e) h (fun _ => True)
        simp only at hk
        split at hk
        · cases hk
        · obtain rfl : g2 = g := hup
          split at hk
          · rename_i s1 hs1
            have hR1 := after_okF (u := []) hs1 hE hH hz0 hg0 (fun j hj => hfr j (by simp only [nxU] at hj; omega)) (fun sv' e => by obtain rfl := Option.some.inj e; exact hv) hap (put_other hd hod)
            refine wpMixI_quiet o ho fun K hK' => ?_
            rw [if_pos (wanted_none hgd _)]
            exact ⟨v, fun w' _ => by rw [hrun w' trivial]; exact ⟨rfl, rfl⟩, hK' _ (evB_early heq ht hIx hK hfa hfg hfd hz hpost hk hall' hds' hR1)⟩
          · cases hk
      · rename_i hf0
        rw [hf0]
        split at h
        · cases h
        · rename_i hfl
          refine wpMixI_loud o ho fun K hK' X e => ?_
          have hx : Ext w (w.ext X e) := ⟨X, e, rfl⟩
          obtain ⟨z, g, hE, hH, hfr, hz0, hg0, hap, hd⟩ := hR.ext hx
          refine wpList_step fun K2 hK2 => ?_
          rw [if_pos (wanted_none hgd _)]
          refine evOp_frame heq ht hfr hE hH hap h fun v u x w' z2 g2 hk hz2 hg2 hE2 hH2 hf2 hv hmk hap2 => hK2 _ _ ?_
          split at hk
          · rename_i s1 hs1
            have hR1 := after_okF hs1 hE2 hH2 (hz0.trans hz2) (hg0.trans hg2) hf2 hv hap2 (put_other hd hod)
            show K _ _
            refine hK' _ _ (fun hc hw => ?_) (evB_early heq ht hIx hK hfa hfg hfd hz hpost hk hall' hds' hR1)
            simp only [Bool.or_eq_true, Bool.false_eq_true, false_or] at hfl
            rcases hfl with h1 | h1
            · obtain rfl := Nat.eq_of_beq_eq_true h1
              rw [List.contains_iff_mem.2 (htl rfl)] at hc
              cases hc
            · exact hIx _ _ (hIx _ _ hw hx) (hmk h1)
          · cases hk
theorem evB_float (heq : ∀ p ∈ eqs, EqFact P E p.1 p.2) (ht : tab.OK P E) {I : World → Prop} (hIx : ∀ w w', I w → Ext w w' → I w') {R : Type} {r : R} {all : List Oper} {tl fr : List Nat} {Q : Exit → Act → World → Prop} {b : Ba E} {k : St E → Option R}
    (hK : ∀ s' a' w', k s' = some r → Rel P E Bs F0 w0 N (s'.L b) (s'.H b) s'.nx a' w' → Q .normal a' w') {fi d T : Nat} {fo : Oper} {post : List (Nat × Oper × Nat)} (hfi : all[fi]? = some fo) (hfa : fo.op = .alloc T) (hfg : fo.guard = none) (hfd : fo.dst = some d) (hpost : ∀ t ∈ post, all[t.1]? = some t.2.1 ∧ (t.2.2 = 2 → t.1 ∈ tl)) : ∀ {pre : List (Nat × Oper × Nat)} {s : St E} {a : Act} {w : World},
    evB P E eqs tab N false b (pre ++ (fi, fo, 1) :: post) s k = some r → (∀ t ∈ pre, all[t.1]? = some t.2.1 ∧ (t.2.2 = 2 → t.1 ∈ tl)) → (∀ t ∈ pre, t.2.1.dst ≠ some d) → s.L b d = none → Nat.blt d N = true → (∃ zs, zeroOf P T = some zs) → Rel P E Bs F0 w0 N (s.L b) (s.H b) s.nx a w → wpMixF P all.toArray tl fr I Q fi (trOrd post) (trOrd pre) a w
  | [], s, a, w, h, _, _, _, _, _, hR => by
    rw [List.nil_append] at h
    exact evB_ok (fm := false) heq ht hIx (fun e => by cases e) hK (l := (fi, fo, 1) :: post) h (fun t ht => by
      rcases List.mem_cons.1 ht with rfl | ht
      · exact ⟨hfi, fun e => nomatch e⟩
      · exact hpost t ht) hR
  | (i, o, f) :: pre, s, a, w, h, hall, hds, hLd, hdN, hzs, hR => by
    obtain ⟨ho, htl⟩ := hall _ (List.mem_cons_self ..)
    have hall' : ∀ t ∈ pre, all[t.1]? = some t.2.1 ∧ (t.2.2 = 2 → t.1 ∈ tl) := fun t ht => hall t (List.mem_cons_of_mem _ ht)
    have hds' : ∀ t ∈ pre, t.2.1.dst ≠ some d := fun t ht => hds t (List.mem_cons_of_mem _ ht)
    have hod : o.dst ≠ some d := hds _ (List.mem_cons_self ..)
    have hfull := h
    simp only at ho htl
    rw [List.cons_append] at h
    unfold evB at h
    split at h
    · cases h
    · rename_i hgd
      simp only [trOrd]
      split at h
      · rename_i hf0
        rw [hf0]
        obtain ⟨z, g, hE, hH, hfr, hz0, hg0⟩ := hR
        obtain ⟨sv, v, up, g2, hk, hgl, hgn, hv, hrun, hup⟩ := qFree_ok (nx := s.nx) heq hE.op (hH.less (H' := fun _ => none) fun _ _ e => by cases e) h (fun _ => True)
        simp only at hk
        split at hk
        · cases hk
        · obtain rfl : g2 = g := hup
          split at hk
          · rename_i s1 hs1
            obtain ⟨hR1, hL1⟩ := after_ok (u := []) hs1 hE hH hz0 hg0 (fun j hj => hfr j (by simp only [nxU] at hj; omega)) (fun sv' e => by obtain rfl := Option.some.inj e; exact hv)
            refine wpMixF_quiet o ho fun K hK' => ?_
            rw [if_pos (wanted_none hgd _)]
            exact ⟨v, fun w' _ => by rw [hrun w' trivial]; exact ⟨rfl, rfl⟩, hK' _ (evB_float heq ht hIx hK hfi hfa hfg hfd hpost hk hall' hds' ((hL1 d fun d' e => by rw [e] at hod; exact fun h => hod (by rw [h])).trans hLd) hdN hzs hR1)⟩
          · cases hk
      · rename_i hf0
        rw [hf0]
        split at h
        · cases h
        · rename_i hfl
          refine wpMixF_loud o fo ho hfi (fun K hK' X e => ?_) fun K hK' X e => ?_
          · have hx : Ext w (w.ext X e) := ⟨X, e, rfl⟩
            obtain ⟨z, g, hE, hH, hfr, hz0, hg0⟩ := hR.ext hx
            refine wpList_step fun K2 hK2 => ?_
            rw [if_pos (wanted_none hgd _)]
            refine evOp_ok2 heq ht hfr hE hH h fun v u x w' z2 g2 hk hz2 hg2 hE2 hH2 hf2 hv hmk => hK2 _ _ ?_
            split at hk
            · rename_i s1 hs1
              obtain ⟨hR1, hL1⟩ := after_ok hs1 hE2 hH2 (hz0.trans hz2) (hg0.trans hg2) hf2 hv
              show K _ _
              refine hK' _ _ (fun hc hw => ?_) (evB_float heq ht hIx hK hfi hfa hfg hfd hpost hk hall' hds' ((hL1 d fun d' e => by rw [e] at hod; exact fun h => hod (by rw [h])).trans hLd) hdN hzs hR1)
              simp only [Bool.or_eq_true, Bool.false_eq_true, false_or] at hfl
              rcases hfl with h1 | h1
              · obtain rfl := Nat.eq_of_beq_eq_true h1
                rw [List.contains_iff_mem.2 (htl rfl)] at hc
                cases hc
              · exact hIx _ _ (hIx _ _ hw hx) (hmk h1)
            · cases hk
          · have hx : Ext w (w.ext X e) := ⟨X, e, rfl⟩
            obtain ⟨zs, hz⟩ := hzs
            obtain ⟨z, g, hE, hH, hfr, hz0, hg0⟩ := hR.ext hx
            refine wpList_step fun K2 hK2 => ?_
            rw [if_pos (wanted_none hfg _)]
            unfold Oper.wp
            rw [run_alloc hfa hz]
            simp only [Oper.upon]
            rw [hfd]
            refine hK2 _ _ ?_
            show K _ _
            generalize hw1 : w.ext X e = w1 at hE hH hx
            have hx2 : Ext w1 (w1.alloc (.cells zs.toArray T)) := Ext.one w1 _
            have hb : wpMixI P all.toArray tl fr I Q (trOrd ((i, o, f) :: pre) ++ trOrd post) (a.put (some d) (.pointer (some ⟨w1.heap.size, 0, none⟩))) (w1.alloc (.cells zs.toArray T)) := by
              refine evB_early (q := w1.heap.size) heq ht hIx hK hfa hfg hfd hz hpost hfull hall hds ?_
              refine ⟨z, g, hE.del (fun t u hu => ⟨fun e => ?_, hu⟩), hH.ext hx2, hfr, hz0, hg0, ⟨?_, hH.size, fun id p k he hfp => ?_, fun hzq => ?_⟩, ?_⟩
              · subst e; rw [hLd] at hu; cases hu
              · show (w1.heap.push _)[w1.heap.size]? = _
                simp
              · have := (hH.hold id p he).lt hfp; omega
              · have := (hH.fz _ hzq).1; omega
              · unfold Act.put
                have : d < a.tmps.size := by rw [hE.size]; exact Nat.le_of_ble_eq_true hdN
                simp [this]
            simp only [trOrd, hf0, Bool.not_false] at hb
            exact hK' _ _ (fun _ hw => hIx _ _ (hIx _ _ hw hx) hx2) hb
def quietWalkF (heq : ∀ p ∈ eqs, EqFact P E p.1 p.2) (ht : tab.OK P E) (all : List Oper) (tl fr : List Nat) (m : Nat) (hm : ∀ i, i < m → fr.contains i = false) (W : World) (I : World → Prop) (hI : ∀ z g H, HR P E Bs F0.z.F w0 W z g H → F0.z.Le z → ∀ w', I w' → Keeps P E z g H W w') (Q : Exit → Act → World → Prop) (fi : Nat) (post : List (Nat × Bool)) : Walk P E (fun L H nx o _ k => evOpQ P E eqs tab L H nx o k) N Bs F0 w0 all where
  W J l i a w := w = W → i + l.length ≤ m → ∀ rest : List (Nat × Bool), (∀ a', J a' W → wpMixF P all.toArray tl fr I Q fi post rest a' W) → wpMixF P all.toArray tl fr I Q fi post (qOrd i l ++ rest) a W
  nil hJ := fun e _ rest h => h _ (e ▸ hJ)
  app h1 h2 := fun e hle rest h => by
    rw [qOrd_append, List.append_assoc]
    rw [List.length_append] at hle
    exact h1 e (by omega) _ fun a' hJ => h2 a' W hJ rfl (by omega) rest h
  skip {J o l i a w} ho hw h1 := fun e hle rest h => by
    simp only [List.length_cons] at hle
    simp only [qOrd, List.cons_append]
    refine wpMixF_quiet o ho fun K hK => ?_
    rw [if_neg (by rw [hw]; exact Bool.false_ne_true)]
    exact hK _ (h1 e (by omega) rest h)
  step {J o l i a w R L H nx z g k r} ho hw hE hH hf hz hg hev hk := fun e hle rest h => by
    simp only [List.length_cons] at hle
    subst e
    simp only [qOrd, List.cons_append]
    refine wpMixF_quiet o ho fun K hK => ?_
    rw [if_pos hw, hm i (by omega)]
    obtain ⟨s, u, v, g2, h1, h2, h3, h4, h5, h6⟩ := evOpQ_ok heq ht hf hE hH (hI z g H hH hz) hev
    refine ⟨v, h6, hK _ ?_⟩
    exact hk (some s) u v w z g2 h1 (Fz.Le.refl z) h2 (hE.le (Fz.Le.refl z) h2) h3 h4.nxU (fun sv hsv => by obtain rfl := Option.some.inj hsv; exact h5) rfl (by omega) rest h
  pick {J o l i a w v} ho hw hr h1 := fun e hle rest h => by
    simp only [List.length_cons] at hle
    simp only [qOrd, List.cons_append]
    refine wpMixF_quiet o ho fun K hK => ?_
    rw [if_pos hw]
    exact ⟨v, fun w' _ => by rw [hr]; exact ⟨rfl, rfl⟩, hK _ (h1 e (by omega) rest h)⟩
theorem evH_okF (heq : ∀ p ∈ eqs, EqFact P E p.1 p.2) (ht : tab.OK P E) {W : World} {I : World → Prop} (hI : ∀ z g H, HR P E Bs F0.z.F w0 W z g H → F0.z.Le z → ∀ w', I w' → Keeps P E z g H W w') {R : Type} {r : R} {all : List Oper} {tl fr : List Nat} {Q : Exit → Act → World → Prop} {b : Ba E} {k : St E → Option R} {fi : Nat} {post rest : List (Nat × Bool)}
    (hK : ∀ s' a', k s' = some r → Rel P E Bs F0 w0 N (s'.L b) (s'.H b) s'.nx a' W → wpMixF P all.toArray tl fr I Q fi post rest a' W) : ∀ {hs : List Nat} {s : St E} {a : Act},
    evH P E eqs tab N b all fr hs s k = some r → Rel P E Bs F0 w0 N (s.L b) (s.H b) s.nx a W → wpMixF P all.toArray tl fr I Q fi post (hOrd hs ++ rest) a W
  | [], s, a, h, hR => hK s a h hR
  | i :: hs, s, a, h, hR => by
    unfold evH at h
    split at h
    · cases h
    · rename_i o ho
      split at h
      · cases h
      · rename_i hgd
        obtain ⟨z, g, hE, hH, hfr, hz0, hg0⟩ := hR
        simp only [hOrd, List.cons_append]
        refine wpMixF_quiet o ho fun K hK' => ?_
        rw [if_pos (wanted_none hgd _)]
        split at h
        · rename_i hc
          rw [hc]
          obtain ⟨sv, v, up, g2, hk, hgl, hgn, hv, hrun, hup⟩ := qFree_ok (nx := s.nx) heq hE.op (hH.less (H' := fun _ => none) fun _ _ e => by cases e) h (fun _ => True)
          simp only at hk
          split at hk
          · cases hk
          · obtain rfl : g2 = g := hup
            split at hk
            · rename_i s1 hs1
              obtain ⟨hR1, _⟩ := after_ok (u := []) hs1 hE hH hz0 hg0 (fun j hj => hfr j (by simp only [nxU] at hj; omega)) (fun sv' e => by obtain rfl := Option.some.inj e; exact hv)
              exact ⟨v, fun w' _ => by rw [hrun w' trivial]; exact ⟨rfl, rfl⟩, hK' _ (evH_okF heq ht hI hK hk hR1)⟩
            · cases hk
        · rename_i hc
          rw [hc]
          obtain ⟨sv, u, v, g2, hk, h2, h3, h4, h5, h6⟩ := evOpQ_ok heq ht hfr hE hH (hI z g _ hH hz0) h
          simp only at hk
          split at hk
          · rename_i s1 hs1
            obtain ⟨hR1, _⟩ := after_ok hs1 (hE.le (Fz.Le.refl z) h2) h3 hz0 (hg0.trans h2) h4.nxU (fun sv' e => by obtain rfl := Option.some.inj e; exact h5)
            exact ⟨v, h6, hK' _ (evH_okF heq ht hI hK hk hR1)⟩
          · cases hk
theorem evFloat_ok (heq : ∀ p ∈ eqs, EqFact P E p.1 p.2) (ht : tab.OK P E) {R : Type} {l : List Oper} {fl hs : List Nat} {p : Nat} {id : Nat} {b : Ba E} {s : St E} {k : St E → Option R} {r : R} {a : Act} {w : World} {Q : Exit → Act → World → Prop} (h : evFloat P E eqs tab N l fl hs p b s k = some r) (hR : Rel P E Bs F0 w0 N (s.L b) (s.H b) s.nx a w)
    (hK : ∀ s' a' w', k s' = some r → Rel P E Bs F0 w0 N (s'.L b) (s'.H b) s'.nx a' w' → Q .normal a' w') : (Code.region id l.toArray true).wp P Q a w := by
  unfold evFloat at h
  split at h
  · cases h
  · rename_i t ht0
    obtain ⟨fi, fo, f1⟩ := t
    split at h
    · cases h
    · rename_i hchk
      simp only [Bool.and_eq_true] at hchk
      obtain ⟨⟨hm, hfb, hf1⟩, hB⟩ := hchk
      obtain rfl := Nat.eq_of_beq_eq_true hf1
      have hmem : ∀ t ∈ trOf hs (quietN fl) (l.drop (quietN fl)) (fl.drop (quietN fl)), l[t.1]? = some t.2.1 ∧ (t.2.2 = 2 → t.1 ∈ tlOf 0 fl) := fun t hmem => by
        obtain ⟨k, h5, h6, h7⟩ := trOf_mem hmem
        rw [List.getElem?_drop] at h6 h7
        rw [← h5] at h6 h7
        refine ⟨h6, fun hf => ?_⟩
        rw [hf] at h7
        have := mem_tlOf (n := 0) h7
        rwa [Nat.zero_add] at this
      have hfi := (hmem _ (List.mem_of_getElem? ht0)).1
      unfold floatB at hfb
      simp only at hfb hfi hB h
      split at hfb
      · rename_i T d hfa hfg hfd
        simp only [Bool.and_eq_true, Bool.not_eq_true'] at hfb
        obtain ⟨hds, hdN, hzb⟩ := hfb
        have hzs : ∃ zs, zeroOf P T = some zs := by
          split at hzb
          · rename_i zs hz; exact ⟨zs, hz⟩
          · cases hzb
        have hdst : dstN fo = d := by unfold dstN; rw [hfd]
        rw [hdst] at h
        have hIx : ∀ w1 w', Ext w w1 → Ext w1 w' → Ext w w' := fun _ _ h1 h2 => h1.trans h2
        have hI : ∀ z g H, HR P E Bs F0.z.F w0 w z g H → F0.z.Le z → ∀ w', Ext w w' → Keeps P E z g H w w' := fun z g H h1 _ w' h2 => Keeps.of_ext h1 h2
        refine wp_region_mixF (I := Ext w) hIx _ _ _ _ hm hB (Ext.refl w) ?_
        have := evList_ok (quietWalkF heq ht l (tlOf 0 fl) (frOf 0 fl) (quietN fl) (fun _ h => notFree h) w (Ext w) hI Q fi (trOrd ((trOf hs (quietN fl) (l.drop (quietN fl)) (fl.drop (quietN fl))).drop (p + 1)))) _ (tl := l.drop (quietN fl)) (J := fun a' w' => w' = w → wpMixF P l.toArray (tlOf 0 fl) (frOf 0 fl) (Ext w) Q fi (trOrd ((trOf hs (quietN fl) (l.drop (quietN fl)) (fl.drop (quietN fl))).drop (p + 1))) (hOrd hs ++ trOrd ((trOf hs (quietN fl) (l.drop (quietN fl)) (fl.drop (quietN fl))).take p)) a' w') h (by simp) hR trivial fun s' a' w' h1 h2 _ hw => by
          subst hw
          refine evH_okF heq ht hI (fun s2 a2 h3 h4 => ?_) h1 h2
          have hL : (({ s2 with env := (d, none) :: s2.env } : St E).L b) d = none := by
            simp only [St.L, aget, Nat.beq_refl]
          have hR2 : Rel P E Bs F0 w0 N (({ s2 with env := (d, none) :: s2.env } : St E).L b) (({ s2 with env := (d, none) :: s2.env } : St E).H b) s2.nx a2 w' := by
            obtain ⟨z, g, hE, hH, hrest⟩ := h4
            exact ⟨z, g, hE.less fun t u hu => (by
              simp only [St.L, aget] at hu ⊢
              cases hb : Nat.beq t d with
              | true => rw [hb] at hu; cases hu
              | false => rw [hb] at hu; exact hu), hH, hrest⟩
          refine evB_float heq ht hIx hK hfi hfa hfg hfd (fun t ht1 => hmem t (List.mem_of_mem_drop ht1)) h3 (fun t ht1 => hmem t (List.mem_of_mem_take ht1)) (memN_dstsT hds) hL hdN hzs hR2
        exact this rfl (by rw [Nat.zero_add]; exact List.length_take_le _ _) _ fun a' h1 => h1 rfl
      · cases hfb
def quietWalkO (heq : ∀ p ∈ eqs, EqFact P E p.1 p.2) (ht : tab.OK P E) (all : List Oper) (fr : List Nat) (m : Nat) (hm : ∀ i, i < m → fr.contains i = false) (W : World) (I : World → Prop) (hI : ∀ z g H, HR P E Bs F0.z.F w0 W z g H → F0.z.Le z → ∀ w', I w' → Keeps P E z g H W w') (Q : Exit → Act → World → Prop) (t : OT) : Walk P E (fun L H nx o _ k => evOpQ P E eqs tab L H nx o k) N Bs F0 w0 all where
  W J l i a w := w = W → i + l.length ≤ m → ∀ rest : List (Nat × Bool), (∀ a', J a' W → wpMixO P all.toArray fr I Q t rest a' W) → wpMixO P all.toArray fr I Q t (qOrd i l ++ rest) a W
  nil hJ := fun e _ rest h => h _ (e ▸ hJ)
  app h1 h2 := fun e hle rest h => by
    rw [qOrd_append, List.append_assoc]
    rw [List.length_append] at hle
    exact h1 e (by omega) _ fun a' hJ => h2 a' W hJ rfl (by omega) rest h
  skip {J o l i a w} ho hw h1 := fun e hle rest h => by
    simp only [List.length_cons] at hle
    simp only [qOrd, List.cons_append]
    refine wpMixO_quiet o ho fun K hK => ?_
    rw [if_neg (by rw [hw]; exact Bool.false_ne_true)]
    exact hK _ (h1 e (by omega) rest h)
  step {J o l i a w R L H nx z g k r} ho hw hE hH hf hz hg hev hk := fun e hle rest h => by
    simp only [List.length_cons] at hle
    subst e
    simp only [qOrd, List.cons_append]
    refine wpMixO_quiet o ho fun K hK => ?_
    rw [if_pos hw, hm i (by omega)]
    obtain ⟨s, u, v, g2, h1, h2, h3, h4, h5, h6⟩ := evOpQ_ok heq ht hf hE hH (hI z g H hH hz) hev
    refine ⟨v, h6, hK _ ?_⟩
    exact hk (some s) u v w z g2 h1 (Fz.Le.refl z) h2 (hE.le (Fz.Le.refl z) h2) h3 h4.nxU (fun sv hsv => by obtain rfl := Option.some.inj hsv; exact h5) rfl (by omega) rest h
  pick {J o l i a w v} ho hw hr h1 := fun e hle rest h => by
    simp only [List.length_cons] at hle
    simp only [qOrd, List.cons_append]
    refine wpMixO_quiet o ho fun K hK => ?_
    rw [if_pos hw]
    exact ⟨v, fun w' _ => by rw [hr]; exact ⟨rfl, rfl⟩, hK _ (h1 e (by omega) rest h)⟩
theorem evOT_ok (heq : ∀ p ∈ eqs, EqFact P E p.1 p.2) (ht : tab.OK P E) {R : Type} {r : R} {all : List Oper} {Q : Exit → Act → World → Prop} {b : Ba E} {k : St E → Option R}
    (hK : ∀ s' a' w', k s' = some r → Rel P E Bs F0 w0 N (s'.L b) (s'.H b) s'.nx a' w' → Q .normal a' w') : ∀ {t : OT} {c : Bool} {s : St E} {a : Act} {w : World},
    evOT P E eqs tab N b all k t s = some r → Rel P E Bs F0 w0 N (s.L b) (s.H b) s.nx a w → wpO P all.toArray Q t c a w := by
  have step : ∀ {i : Nat} {t : OT} (ih : ∀ {s : St E} {a : Act} {w : World}, evOT P E eqs tab N b all k t s = some r → Rel P E Bs F0 w0 N (s.L b) (s.H b) s.nx a w → wpO P all.toArray Q t false a w) {s : St E} {a : Act} {w : World},
      (match all[i]? with
        | none => none
        | some o => match o.guard with
          | some _ => none
          | none => evOp P E eqs tab (s.L b) (s.H b) s.nx o fun v u => match s.after N o v u with
            | some s1 => evOT P E eqs tab N b all k t s1
            | none => none) = some r → Rel P E Bs F0 w0 N (s.L b) (s.H b) s.nx a w →
      (match all.toArray[i]? with
        | none => False
        | some o => ∀ X d, wpList P all.toArray (Exit.then (fun a' w' => wpO P all.toArray Q t false a' w') (onlyOut Q)) [o] a (w.ext X d)) := by
    intro i t ih s a w h hR
    split at h
    · cases h
    · rename_i o ho
      split at h
      · cases h
      · rename_i hgd
        have ho' : all.toArray[i]? = some o := by simpa using ho
        rw [ho']
        intro X d
        obtain ⟨z, g, hE, hH, hfr, hz0, hg0⟩ := hR.ext ⟨X, d, rfl⟩
        refine wpList_step fun K2 hK2 => ?_
        rw [if_pos (wanted_none hgd _)]
        refine evOp_ok2 heq ht hfr hE hH h fun v u x w' z2 g2 hk hz2 hg2 hE2 hH2 hf2 hv _ => hK2 _ _ ?_
        split at hk
        · rename_i s1 hs1
          obtain ⟨hR1, _⟩ := after_ok hs1 hE2 hH2 (hz0.trans hz2) (hg0.trans hg2) hf2 hv
          exact ih hk hR1
        · cases hk
  intro t
  induction t with
  | nil =>
    intro c s a w h hR
    cases c with
    | true => trivial
    | false => exact fun X d => hK s a _ (by simpa only [evOT] using h) (hR.ext ⟨X, d, rfl⟩)
  | free i t ih =>
    intro c s a w h hR
    simp only [evOT] at h
    split at h
    · cases h
    · rename_i o ho
      split at h
      · cases h
      · rename_i hgd
        have ho' : all.toArray[i]? = some o := by simpa using ho
        simp only [wpO, ho']
        rw [if_pos (wanted_none hgd _)]
        obtain ⟨z, g, hE, hH, hfr, hz0, hg0⟩ := hR
        obtain ⟨sv, v, up, g2, hk, hgl, hgn, hv, hrun, hup⟩ := qFree_ok (nx := s.nx) heq hE.op (hH.less (H' := fun _ => none) fun _ _ e => by cases e) h (fun _ => True)
        simp only at hk
        split at hk
        · cases hk
        · obtain rfl : g2 = g := hup
          split at hk
          · rename_i s1 hs1
            obtain ⟨hR1, _⟩ := after_ok (u := []) hs1 hE hH hz0 hg0 (fun j hj => hfr j (by simp only [nxU] at hj; omega)) (fun sv' e => by obtain rfl := Option.some.inj e; exact hv)
            exact ⟨v, fun w' _ => by rw [hrun w' trivial]; exact ⟨rfl, rfl⟩, ih hk hR1⟩
          · cases hk
  | alt i t rr ih ihr =>
    intro c s a w h hR
    cases rr with
    | nil =>
      simp only [evOT] at h
      exact ⟨step (fun h hR => ih h hR) h hR, trivial⟩
    | free j t2 =>
      simp only [evOT] at h
      cases h
    | alt j t2 r2 =>
      rw [evOT] at h
      obtain ⟨h1, h2⟩ := both_some h
      exact ⟨step (fun h hR => ih h hR) h1 hR, ihr h2 hR⟩
theorem evOrd_ok (heq : ∀ p ∈ eqs, EqFact P E p.1 p.2) (ht : tab.OK P E) {R : Type} {l : List Oper} {p : Nat} {t : OT} {id : Nat} {b : Ba E} {s : St E} {k : St E → Option R} {r : R} {a : Act} {w : World} {Q : Exit → Act → World → Prop} (h : evOrd P E eqs tab N l p t b s k = some r) (hR : Rel P E Bs F0 w0 N (s.L b) (s.H b) s.nx a w)
    (hK : ∀ s' a' w', k s' = some r → Rel P E Bs F0 w0 N (s'.L b) (s'.H b) s'.nx a' w' → Q .normal a' w') : (Code.region id l.toArray true).wp P Q a w := by
  unfold evOrd at h
  split at h
  · cases h
  · rename_i hchk
    simp only [Bool.and_eq_true] at hchk
    obtain ⟨hm, hfr, hB⟩ := hchk
    have hIx : ∀ w1 w', Ext w w1 → Ext w1 w' → Ext w w' := fun _ _ h1 h2 => h1.trans h2
    have hI : ∀ z g H, HR P E Bs F0.z.F w0 w z g H → F0.z.Le z → ∀ w', Ext w w' → Keeps P E z g H w w' := fun z g H h1 _ w' h2 => Keeps.of_ext h1 h2
    have hnf : ∀ i, i < p → t.frO.contains i = false := fun i hi => by
      cases hc : t.frO.contains i with
      | false => rfl
      | true =>
        have := List.all_eq_true.1 hfr i (List.contains_iff_mem.1 hc)
        have := Nat.le_of_ble_eq_true this
        omega
    refine wp_region_mixO (I := Ext w) hIx _ _ _ hm hB (Ext.refl w) ?_
    have := evList_ok (quietWalkO heq ht l t.frO p hnf w (Ext w) hI Q t) _ (tl := l.drop p) (J := fun a' w' => w' = w → wpMixO P l.toArray t.frO (Ext w) Q t [] a' w) h (by simp) hR trivial fun s' a' w' h1 h2 _ hw => by
      subst hw
      exact evOT_ok heq ht hK h1 h2
    have h3 := this rfl (by rw [Nat.zero_add]; exact List.length_take_le _ _) [] fun a' h1 => h1 rfl
    rwa [List.append_nil] at h3
end Rt
end Go
namespace Go
namespace Rt
open Go.RowKit
section
variable {P : Program} {E : TE} {z : Fz} {g g' : Ga} {w w0 : World} {Bs : List Nat} {F0 : Nat → Prop} {N : Nat}
theorem HR.remap {H H' : Nat → Option (Obj E)} (h : HR P E Bs F0 w0 w z g H) (f : Nat → Nat) (hf : ∀ i j o p, H' i = some o → H' j = some p → f i = f j → i = j)
    (ho : ∀ i o', H' i = some o' → ∃ o, H (f i) = some o ∧ ObjR P E z g' w i o' ∧ ∀ k, fpO g' i o' k → fpO g (f i) o k) : HR P E Bs F0 w0 w z g' H' := by
  refine ⟨h.chg, fun i o e => ?_, fun i o k e hk => ?_, fun i j o p k hn e e' hk hk' => ?_, h.fz, h.fz0, fun i o k e hk => ?_⟩
  · obtain ⟨_, _, h2, _⟩ := ho i o e; exact h2
  · obtain ⟨q, h1, _, h3⟩ := ho i o e; exact h.own _ q k h1 (h3 k hk)
  · obtain ⟨q, h1, _, h3⟩ := ho i o e
    obtain ⟨q', h1', _, h3'⟩ := ho j p e'
    exact h.apart _ _ q q' k (fun e2 => hn (hf i j o p e e' e2)) h1 h1' (h3 k hk) (h3' k hk')
  · obtain ⟨q, h1, _, h3⟩ := ho i o e; exact h.fza _ q k h1 (h3 k hk)
theorem subset_mem {l m : List Nat} (h : subset l m = true) {t : Nat} (ht : t ∈ l) : memN t m = true := by
  unfold subset at h
  exact List.all_eq_true.1 h t ht
theorem disj_mem {l m : List Nat} (h : disj l m = true) {t : Nat} (ht : t ∈ l) : memN t m = false := by
  unfold disj at h
  simpa using List.all_eq_true.1 h t ht
theorem memN_append {t : Nat} : ∀ {l m : List Nat}, memN t (l ++ m) = (memN t l || memN t m)
  | [], m => rfl
  | u :: l, m => by
    simp only [List.cons_append, memN]
    cases Nat.beq t u with
    | true => rfl
    | false => exact memN_append
theorem RC.same {A : List Nat} {c : SC E} {v : Value} (h : RC P E z g c v) (hA : ∀ i, memN i A = true → g' i = g i) (hc : c.okIds A = true) : RC P E z g' c v := by
  cases c with
  | dt t x => exact h
  | own id => obtain ⟨l, h1, h2⟩ := h; exact ⟨l, by rw [hA id hc]; exact h1, h2⟩
  | pre id n => obtain ⟨l, h1, h2⟩ := h; exact ⟨l, by rw [hA id hc]; exact h1, h2⟩
  | suf id lo => obtain ⟨l, h1, h2⟩ := h; exact ⟨l, by rw [hA id hc]; exact h1, h2⟩
  | nils => exact h
  | ptr id off => obtain ⟨l, h1, h2⟩ := h; exact ⟨l, by rw [hA id hc]; exact h1, h2⟩
  | elo id q i off =>
    simp only [SC.okIds, Bool.and_eq_true] at hc
    obtain ⟨l, h1, h2⟩ := h; exact ⟨l, by rw [hA q hc.2]; exact h1, h2⟩
  | elf t x off => exact h
  | fn1 a r f => exact h
  | fn2 a b r f => exact h
  | clo f caps =>
    obtain ⟨us, h1, h2⟩ := h
    refine ⟨us, h1, ?_⟩
    have : ∀ {caps : List Nat} {us : List Value}, subset caps A = true → All2 (fun id u => ∃ l, g id = some l ∧ u = Value.pointer (some ⟨l.b, 0, none⟩)) caps us → All2 (fun id u => ∃ l, g' id = some l ∧ u = Value.pointer (some ⟨l.b, 0, none⟩)) caps us := by
      intro caps us hs hr
      induction hr with
      | nil => exact .nil
      | cons hx _ ih =>
        obtain ⟨l, h3, h4⟩ := hx
        exact .cons ⟨l, by rw [hA _ (subset_mem hs (List.mem_cons_self ..))]; exact h3, h4⟩ (ih (by unfold subset at hs ⊢; simp only [List.all_cons, Bool.and_eq_true] at hs; exact hs.2))
    exact this hc h2
  | mp id => obtain ⟨l, h1, h2⟩ := h; exact ⟨l, by rw [hA id hc]; exact h1, h2⟩
  | mst q => obtain ⟨l, h1, h2⟩ := h; exact ⟨l, by rw [hA q hc]; exact h1, h2⟩
theorem RCs.same {A : List Nat} (hA : ∀ i, memN i A = true → g' i = g i) {l : List (SC E)} {vs : List Value} (h : All2 (RC P E z g) l vs) : (l.all fun c => c.okIds A) = true → All2 (RC P E z g') l vs := by
  induction h with
  | nil => intro _; exact .nil
  | cons hx _ ih =>
    intro hc
    simp only [List.all_cons, Bool.and_eq_true] at hc
    exact .cons (hx.same hA hc.1) (ih hc.2)
theorem R1.same {A : List Nat} {x : V1 E} {v : Value} (h : R1 P E z g x v) (hA : ∀ i, memN i A = true → g' i = g i) (hc : x.okIds A = true) : R1 P E z g' x v := by
  cases x with
  | one c => exact RC.same h hA hc
  | agg l => obtain ⟨vs, h1, h2⟩ := h; exact ⟨vs, h1, RCs.same hA h2 hc⟩
theorem RV.same {A : List Nat} {x : SV E} {v : Value} (h : RV P E z g x v) (hA : ∀ i, memN i A = true → g' i = g i) (hc : x.okIds A = true) : RV P E z g' x v := by
  cases x with
  | v x => exact R1.same h hA hc
  | tup l =>
    obtain ⟨vs, h1, h2⟩ := h
    refine ⟨vs, h1, ?_⟩
    have : ∀ {l : List (V1 E)} {vs : List Value}, (l.all fun c => c.okIds A) = true → All2 (R1 P E z g) l vs → All2 (R1 P E z g') l vs := by
      intro l vs hs hr
      induction hr with
      | nil => exact .nil
      | cons hx _ ih =>
        simp only [List.all_cons, Bool.and_eq_true] at hs
        exact .cons (hx.same hA hs.1) (ih hs.2)
    exact this hc h2
theorem fpO_same {i i' : Nat} {o : Obj E} {k : Nat} (hg : g' i' = g i) : fpO g' i' o k ↔ fpO g i o k := by
  cases o <;> simp [fpO, hg]
theorem ObjR.same {A : List Nat} {i : Nat} {o : Obj E} (h : ObjR P E z g w i o) (hA : ∀ i, memN i A = true → g' i = g i) (hi : g' i = g i) (hc : o.okIds A = true) : ObjR P E z g' w i o := by
  cases o with
  | box T cs => obtain ⟨l, vs, h1, h2, h3⟩ := h; exact ⟨l, vs, by rw [hi]; exact h1, h2, RCs.same hA h3 hc⟩
  | row e t xs foc =>
    obtain ⟨l, rows, h1, h2, h3, h4, h5, h6, h7, h8⟩ := h
    refine ⟨l, rows, by rw [hi]; exact h1, h2, h3, h4, h5, h6, h7, fun p hp => ?_⟩
    obtain ⟨h9, lq, o, h10, h11⟩ := h8 p hp
    exact ⟨h9, lq, o, by rw [hA p.1 (List.all_eq_true.1 hc p hp)]; exact h10, h11⟩
  | fr t xs => obtain ⟨l, rows, h1, h2⟩ := h; exact ⟨l, rows, by rw [hi]; exact h1, h2⟩
  | fb t x => obtain ⟨l, r, h1, h2⟩ := h; exact ⟨l, r, by rw [hi]; exact h1, h2⟩
  | map T k v ks vs foc =>
    obtain ⟨l, es, c, h1, h2, h3, h4⟩ := h
    refine ⟨l, es, c, by rw [hi]; exact h1, h2, h3, fun p hp => ?_⟩
    obtain ⟨lq, i, e, h5, h6⟩ := h4 p hp
    exact ⟨lq, i, e, by rw [hA p.1 (List.all_eq_true.1 hc p hp)]; exact h5, h6⟩
def Bd.Le (a b : Bd) : Prop := ∀ j id, aget j a = some id → aget j b = some id
theorem Bd.Le.refl (a : Bd) : Bd.Le a a := fun _ _ h => h
theorem Bd.Le.trans {a b c : Bd} (h : Bd.Le a b) (k : Bd.Le b c) : Bd.Le a c := fun j id e => k j id (h j id e)
theorem addB_ok {j id : Nat} {a b : Bd} (h : addB j id a = some b) : Bd.Le a b ∧ aget j b = some id := by
  unfold addB at h
  split at h
  · rename_i id' hg
    split at h
    · rename_i hb
      obtain rfl := Nat.eq_of_beq_eq_true hb
      obtain rfl := Option.some.inj h
      exact ⟨Bd.Le.refl _, hg⟩
    · cases h
  · rename_i hg
    obtain rfl := Option.some.inj h
    refine ⟨fun j' id' e => ?_, ?_⟩
    · simp only [aget]
      split
      · rename_i hb
        obtain rfl := Nat.eq_of_beq_eq_true hb
        rw [hg] at e; cases e
      · exact e
    · simp only [aget]
      have : Nat.beq j j = true := by simp
      rw [this]
def Bound (g g' : Ga) (bs : Bd) : Prop := ∀ j id, aget j bs = some id → g' j = g id
theorem bindC_le : ∀ {ps : List CP} {cs : List (SC E)} {a b : Bd}, bindC ps cs a = some b → Bd.Le a b
  | [], cs, a, b, h => by
    cases cs with
    | nil => obtain rfl := Option.some.inj h; exact Bd.Le.refl _
    | cons c cs => simp [bindC] at h
  | p :: ps, cs, a, b, h => by
    unfold bindC at h
    split at h
    · rename_i hx; cases hx
    · rename_i hx; cases hx; exact bindC_le h
    · rename_i hx
      cases hx
      split at h
      · rename_i hb; exact (addB_ok hb).1.trans (bindC_le h)
      · cases h
    · rename_i hx
      cases hx
      split at h
      · rename_i hb; exact (addB_ok hb).1.trans (bindC_le h)
      · cases h
    · rename_i hx
      cases hx
      split at h
      · rename_i hb; exact (addB_ok hb).1.trans (bindC_le h)
      · cases h
    · cases h
theorem leafC_v {H : Nat → Option (Obj E)} {t : Ty} {ps : List CP} {c : SC E} {cs : List (SC E)} {h : HL E.S (cpT (.v t :: ps))} (e : leafC H (.v t :: ps) (c :: cs) = some h) : c.data H t = some h.1 ∧ leafC H ps cs = some h.2 :=
  pairO_some e
theorem leafC_own {H : Nat → Option (Obj E)} {j : Nat} {ps : List CP} {c : SC E} {cs : List (SC E)} {h : HL E.S (cpT ps)} (e : leafC H (.own j :: ps) (c :: cs) = some h) : leafC H ps cs = some h := e
theorem leafC_ptr {H : Nat → Option (Obj E)} {j : Nat} {ps : List CP} {c : SC E} {cs : List (SC E)} {h : HL E.S (cpT ps)} (e : leafC H (.ptr j :: ps) (c :: cs) = some h) : leafC H ps cs = some h := e
theorem bindC_own {j : Nat} {ps : List CP} {c : SC E} {cs : List (SC E)} {a b : Bd} (e : bindC (.own j :: ps) (c :: cs) a = some b) : ∃ id b1, c = .own id ∧ addB j id a = some b1 ∧ bindC ps cs b1 = some b := by
  cases c with
  | own id =>
    simp only [bindC] at e
    split at e
    · rename_i b1 hb; exact ⟨id, b1, rfl, hb, e⟩
    · cases e
  | _ => simp [bindC] at e
theorem bindC_ptr {j : Nat} {ps : List CP} {c : SC E} {cs : List (SC E)} {a b : Bd} (e : bindC (.ptr j :: ps) (c :: cs) a = some b) : ∃ id b1, c = .ptr id 0 ∧ addB j id a = some b1 ∧ bindC ps cs b1 = some b := by
  cases c with
  | ptr id off =>
    cases off with
    | zero =>
      simp only [bindC] at e
      split at e
      · rename_i b1 hb; exact ⟨id, b1, rfl, hb, e⟩
      · cases e
    | succ n => simp [bindC] at e
  | _ => simp [bindC] at e
theorem leafC_mp {H : Nat → Option (Obj E)} {j : Nat} {ps : List CP} {c : SC E} {cs : List (SC E)} {h : HL E.S (cpT ps)} (e : leafC H (.mp j :: ps) (c :: cs) = some h) : leafC H ps cs = some h := e
theorem bindC_mp {j : Nat} {ps : List CP} {c : SC E} {cs : List (SC E)} {a b : Bd} (e : bindC (.mp j :: ps) (c :: cs) a = some b) : ∃ id b1, c = .mp id ∧ addB j id a = some b1 ∧ bindC ps cs b1 = some b := by
  cases c with
  | mp id =>
    simp only [bindC] at e
    split at e
    · rename_i b1 hb; exact ⟨id, b1, rfl, hb, e⟩
    · cases e
  | _ => simp [bindC] at e
theorem bindC_v {t : Ty} {ps : List CP} {c : SC E} {cs : List (SC E)} {a b : Bd} (e : bindC (.v t :: ps) (c :: cs) a = some b) : bindC ps cs a = some b := e
theorem bindC_cons {p : CP} {ps : List CP} {cs : List (SC E)} {a b : Bd} (e : bindC (p :: ps) cs a = some b) : ∃ c cs', cs = c :: cs' := by
  cases cs with
  | nil => cases p <;> simp [bindC] at e
  | cons c cs => exact ⟨c, cs, rfl⟩
theorem cells_meet {H : Nat → Option (Obj E)} (hH : HR P E Bs F0 w0 w z g H) {bs : Bd} (hB : Bound g g' bs) : ∀ (ps : List CP) (cs : List (SC E)) (a b : Bd) (h : HL E.S (cpT ps)) (vs : List Value), bindC ps cs a = some b → Bd.Le b bs → leafC H ps cs = some h → All2 (RC P E z g) cs vs → All2 (RC P E z g') (newC ps h) vs := by
  intro ps
  induction ps with
  | nil =>
    intro cs a b h vs h1 _ _ h4
    cases cs with
    | nil => cases h4; exact .nil
    | cons c cs => simp [bindC] at h1
  | cons p ps ih =>
    intro cs a b h vs h1 h2 h3 h4
    obtain ⟨c, cs, rfl⟩ := bindC_cons h1
    obtain ⟨v, vs, rfl, hx, hr⟩ : ∃ v vs', vs = v :: vs' ∧ RC P E z g c v ∧ All2 (RC P E z g) cs vs' := by
      cases h4 with | cons hx hr => exact ⟨_, _, rfl, hx, hr⟩
    cases p with
    | v t =>
      obtain ⟨hd, hl⟩ := leafC_v h3
      have h5 := ih cs a b h.2 vs (bindC_v h1) h2 hl hr
      have h6 : RC P E z g' (.dt t h.1) v := SC.data_ok (w := w) hH hd hx
      show All2 _ (SC.dt t h.1 :: newC ps h.2) _
      exact All2.cons h6 h5
    | own j =>
      obtain ⟨id, b1, rfl, hb, h1⟩ := bindC_own h1
      have h5 := ih cs b1 b h vs h1 h2 (leafC_own h3) hr
      obtain ⟨l, h6, h7⟩ := hx
      have hg := hB j id (h2 _ _ (bindC_le h1 _ _ (addB_ok hb).2))
      have h8 : RC P E z g' (.own j) v := ⟨l, by rw [hg]; exact h6, h7⟩
      show All2 _ (SC.own j :: newC ps h) _
      exact All2.cons h8 h5
    | ptr j =>
      obtain ⟨id, b1, rfl, hb, h1⟩ := bindC_ptr h1
      have h5 := ih cs b1 b h vs h1 h2 (leafC_ptr h3) hr
      obtain ⟨l, h6, h7⟩ := hx
      have hg := hB j id (h2 _ _ (bindC_le h1 _ _ (addB_ok hb).2))
      have h8 : RC P E z g' (.ptr j 0) v := ⟨l, by rw [hg]; exact h6, h7⟩
      show All2 _ (SC.ptr j 0 :: newC ps h) _
      exact All2.cons h8 h5
    | mp j =>
      obtain ⟨id, b1, rfl, hb, h1⟩ := bindC_mp h1
      have h5 := ih cs b1 b h vs h1 h2 (leafC_mp h3) hr
      obtain ⟨l, h6, h7⟩ := hx
      have hg := hB j id (h2 _ _ (bindC_le h1 _ _ (addB_ok hb).2))
      have h8 : RC P E z g' (.mp j) v := ⟨l, by rw [hg]; exact h6, h7⟩
      show All2 _ (SC.mp j :: newC ps h) _
      exact All2.cons h8 h5
theorem hfst_hap {S : Nat → Type} : ∀ (ts us : List Ty) (a : HL S ts) (b : HL S us), hfst ts us (hap a b) = a
  | [], _, _, _ => rfl
  | _ :: ts, us, (x, a), b => by
    show (x, hfst ts us (hap a b)) = _
    rw [hfst_hap ts us a b]
theorem hsnd_hap {S : Nat → Type} : ∀ (ts us : List Ty) (a : HL S ts) (b : HL S us), hsnd ts us (hap a b) = b
  | [], _, _, _ => rfl
  | _ :: ts, us, a, b => hsnd_hap ts us a.2 b
theorem bindS_le {L : Nat → Option (SV E)} : ∀ {l : List (Nat × VP)} {a b : Bd}, bindS L l a = some b → Bd.Le a b
  | [], a, b, h => by obtain rfl := Option.some.inj h; exact Bd.Le.refl _
  | (t, .d _) :: l, a, b, h => bindS_le (l := l) h
  | (t, .one p) :: l, a, b, h => by
    simp only [bindS] at h
    split at h
    · split at h
      · rename_i hb; exact (bindC_le hb).trans (bindS_le h)
      · cases h
    · cases h
  | (t, .agg ps) :: l, a, b, h => by
    simp only [bindS] at h
    split at h
    · split at h
      · rename_i hb; exact (bindC_le hb).trans (bindS_le h)
      · cases h
    · cases h
theorem newV_ok {H : Nat → Option (Obj E)} (hH : HR P E Bs F0 w0 w z g H) {bs : Bd} (hB : Bound g g' bs) {p : VP} {x x' : V1 E} {h : HL E.S p.T} {a b : Bd} {v : Value}
    (hb : ∀ c, p = .one c → ∃ y, x = .one y ∧ bindC [c] [y] a = some b) (hg : ∀ ps, p = .agg ps → ∃ y, x = .agg y ∧ bindC ps y a = some b) (h2 : Bd.Le b bs) (h3 : leafV H p x = some h) (h4 : newV p h = some x') (hv : R1 P E z g x v) : R1 P E z g' x' v := by
  cases p with
  | d ty =>
    have hd : takeD E H ty x = some h.1 := unitO_some h3
    obtain ⟨y, h6, h7⟩ := RT_asV (takeD_RT hH hd hv) g'
    have h5 : asV E ty (E.cells ty h.1) = some x' := h4
    rw [h6] at h5
    obtain rfl := Option.some.inj h5
    exact h7
  | one c =>
    obtain ⟨y, rfl, h5⟩ := hb c rfl
    have h6 := cells_meet hH hB [c] [y] a b h [v] h5 h2 h3 (.cons hv .nil)
    have h7 : ones (newC [c] h) = some x' := h4
    generalize newC [c] h = l at h6 h7
    cases h6 with
    | cons h8 h9 =>
      cases h9
      obtain rfl := Option.some.inj h7
      exact h8
  | agg ps =>
    obtain ⟨y, rfl, h5⟩ := hg ps rfl
    obtain ⟨vs, rfl, h8⟩ := hv
    have h6 := cells_meet hH hB ps y a b h vs h5 h2 h3 h8
    have h7 : some (V1.agg (newC ps h)) = some x' := h4
    obtain rfl := Option.some.inj h7
    exact ⟨vs, rfl, h6⟩
theorem bindS_cons {L : Nat → Option (SV E)} {t : Nat} {p : VP} {l : List (Nat × VP)} {a b : Bd} {x : V1 E} (hx : L t = some (.v x)) (h : bindS L ((t, p) :: l) a = some b) :
    ∃ a', bindS L l a' = some b ∧ (∀ c, p = .one c → ∃ y, x = .one y ∧ bindC [c] [y] a = some a') ∧ ∀ ps, p = .agg ps → ∃ y, x = .agg y ∧ bindC ps y a = some a' := by
  cases p with
  | d ty => exact ⟨a, h, (fun _ e => nomatch e), fun _ e => nomatch e⟩
  | one c =>
    unfold bindS at h
    rw [hx] at h
    cases x with
    | agg y => cases h
    | one y =>
      cases hb : bindC [c] [y] a with
      | none => simp only [hb] at h; cases h
      | some b1 =>
        simp only [hb] at h
        exact ⟨b1, h, (fun c' e => by injection e with e; subst e; exact ⟨y, rfl, hb⟩), fun _ e => nomatch e⟩
  | agg ps =>
    unfold bindS at h
    rw [hx] at h
    cases x with
    | one y => cases h
    | agg y =>
      cases hb : bindC ps y a with
      | none => simp only [hb] at h; cases h
      | some b1 =>
        simp only [hb] at h
        exact ⟨b1, h, (fun _ e => nomatch e), fun c' e => by injection e with e; subst e; exact ⟨y, rfl, hb⟩⟩
theorem leafS_cons {L : Nat → Option (SV E)} {H : Nat → Option (Obj E)} {t : Nat} {p : VP} {l : List (Nat × VP)} {h : HL E.S (slotsT ((t, p) :: l))} (e : leafS L H ((t, p) :: l) = some h) :
    ∃ x h1 h2, L t = some (.v x) ∧ leafV H p x = some h1 ∧ leafS L H l = some h2 ∧ h = hap h1 h2 := by
  unfold leafS at e
  cases hx : L t with
  | none => rw [hx] at e; cases e
  | some sv =>
    cases sv with
    | tup q => rw [hx] at e; cases e
    | v x =>
      rw [hx] at e
      obtain ⟨a, b, h1, h2, h3⟩ := hapO_some e
      exact ⟨x, a, b, rfl, h1, h2, h3⟩
theorem newS_cons {t : Nat} {p : VP} {l : List (Nat × VP)} {h1 : HL E.S p.T} {h2 : HL E.S (slotsT l)} {env : List (Nat × Option (SV E))} (e : newS ((t, p) :: l) (hap h1 h2) = some env) :
    ∃ x env', newV p h1 = some x ∧ newS l h2 = some env' ∧ env = (t, some (.v x)) :: env' := by
  have e' : slotO t (newV p (hfst p.T (slotsT l) (hap h1 h2))) (newS l (hsnd p.T (slotsT l) (hap h1 h2))) = some env := e
  rw [hfst_hap, hsnd_hap] at e'
  cases hx : newV p h1 with
  | none => rw [hx] at e'; cases e'
  | some x =>
    cases hl : newS l h2 with
    | none => rw [hx, hl] at e'; cases e'
    | some env' =>
      rw [hx, hl] at e'
      exact ⟨x, env', rfl, rfl, (Option.some.inj e').symm⟩
theorem slots_meet {H : Nat → Option (Obj E)} {L : Nat → Option (SV E)} (hH : HR P E Bs F0 w0 w z g H) {bs : Bd} (hB : Bound g g' bs) : ∀ (l : List (Nat × VP)) (a b : Bd) (h : HL E.S (slotsT l)) (env : List (Nat × Option (SV E))), bindS L l a = some b → Bd.Le b bs → leafS L H l = some h → newS l h = some env →
    ∀ t o, aget t env = some o → ∃ sv s0, o = some sv ∧ L t = some s0 ∧ ∀ v, RV P E z g s0 v → RV P E z g' sv v := by
  intro l
  induction l with
  | nil =>
    intro a b h env _ _ _ h4 t o h5
    have h6 : some [] = some env := h4
    obtain rfl := Option.some.inj h6
    cases h5
  | cons q l ih =>
    obtain ⟨t, p⟩ := q
    intro a b h env h1 h2 h3 h4 t' o h5
    obtain ⟨x, y1, y2, hx, hl1, hl2, rfl⟩ := leafS_cons h3
    obtain ⟨x', env', hn1, hn2, rfl⟩ := newS_cons h4
    obtain ⟨a', ha, hb, hg⟩ := bindS_cons hx h1
    simp only [aget] at h5
    split at h5
    · rename_i hb'
      obtain rfl := Nat.eq_of_beq_eq_true hb'
      obtain rfl := Option.some.inj h5
      exact ⟨_, _, rfl, hx, fun v hv => newV_ok hH hB hb hg ((bindS_le ha).trans h2) hl1 hn1 hv⟩
    · exact ih a' b y2 env' ha h2 hl2 hn2 t' o h5
end
end Rt
end Go
namespace Go
namespace Rt
open Go.RowKit
section
variable {P : Program} {E : TE} {z : Fz} {g g' : Ga} {w w0 : World} {Bs : List Nat} {F0 : Nat → Prop} {N : Nat}
theorem focK_ok {L : Nat → Option (SV E)} {R : Type} {t : Ty} {xs : List (Den E.S t)} {r : R} : ∀ {fs : List (Nat × Nat)} {k : List (Nat × Int × Den E.S t) → Option R}, focK L xs fs k = some r →
    ∃ l, k l = some r ∧ ∀ p ∈ l, ∃ sl id off, (p.1, sl) ∈ fs ∧ L sl = some (.v (.one (.elo id p.1 p.2.1 off))) ∧ getI xs p.2.1 = some p.2.2
  | [], k, h => ⟨[], h, fun _ hp => nomatch hp⟩
  | (q, sl) :: fs, k, h => by
    unfold focK at h
    split at h
    · rename_i id q' i off hL
      split at h
      · rename_i hb
        obtain rfl := Nat.eq_of_beq_eq_true hb
        obtain ⟨y, hy, h⟩ := bind_some h
        obtain ⟨l, h1, h2⟩ := focK_ok h
        refine ⟨_, h1, fun p hp => ?_⟩
        rcases List.mem_cons.1 hp with rfl | hp
        · exact ⟨sl, id, off, List.mem_cons_self .., hL, hy⟩
        · obtain ⟨sl', id', off', h3, h4⟩ := h2 p hp
          exact ⟨sl', id', off', List.mem_cons_of_mem _ h3, h4⟩
      · cases h
    · cases h
def focB (o : Obj E) (keep gkeep : List Nat) (fs : List (Nat × Nat)) : Bool := match o with
  | .row _ _ _ foc => fs.all fun f => (foc.any fun p => Nat.beq p.1 f.1) && (memN f.2 keep && memN f.1 gkeep)
  | _ => false
theorem obj_meet {H : Nat → Option (Obj E)} {L : Nat → Option (SV E)} {R : Type} {k : Obj E → Option R} {r : R} (hH : HR P E Bs F0 w0 w z g H) {bs : Bd} (hB : Bound g g' bs) {keep gkeep : List Nat} (hgk : ∀ i, memN i gkeep = true → g' i = g i)
    (hk : ∀ sl id q i off, memN sl keep = true → L sl = some (.v (.one (.elo id q i off))) → ∃ l, g q = some l ∧ l.ix = i) {p : OP} {o : Obj E} {h : HL E.S p.T} {i id : Nat} (hi : g' i = g id) (h1 : leafO H p o = some h) (h2 : newO L p h k = some r)
    (hf : ∀ e t fs, p = .row e t fs → focB o keep gkeep fs = true) (hc : ∀ T ps, p = .cells T ps → ∀ T' cs, o = .box T' cs → ∃ a b, bindC ps cs a = some b ∧ Bd.Le b bs) :
    ∃ o', k o' = some r ∧ (ObjR P E z g w id o → ObjR P E z g' w i o') ∧ ∀ q, fpO g' i o' q → fpO g id o q := by
  cases p with
  | box T t =>
    cases o with
    | box T' cs =>
      obtain ⟨hT, hq1⟩ := onlyIf_some (show onlyIf (Nat.beq T T') (unitO ((dataL E H (E.flat t) cs).map (E.ufl t))) = some h from h1)
      obtain rfl := Nat.eq_of_beq_eq_true hT
      have h3 := unitO_some hq1
      cases hd : dataL E H (E.flat t) cs with
      | none => rw [hd] at h3; cases h3
      | some d =>
        rw [hd] at h3
        have h4 : E.ufl t d = h.1 := Option.some.inj h3
        refine ⟨_, h2, fun ho => ?_, fun q hq => ?_⟩
        · obtain ⟨l, vs, h5, h6, h7⟩ := ho
          refine ⟨l, vs, by rw [hi]; exact h5, h6, ?_⟩
          have h8 := dataL_ok hH hd h7
          have h9 : d = E.fl t h.1 := by rw [← h4, E.fl_ufl]
          rw [h9] at h8
          exact cells_rd.1 h8
        · obtain ⟨l, h5, h6⟩ := hq
          exact ⟨l, by rw [← hi]; exact h5, h6⟩
    | _ => simp [leafO] at h1
  | cells T ps =>
    cases o with
    | box T' cs =>
      obtain ⟨a, b, h3, h4⟩ := hc T ps rfl T' cs rfl
      obtain ⟨hT, hq1⟩ := onlyIf_some (show onlyIf (Nat.beq T T') (leafC H ps cs) = some h from h1)
      obtain rfl := Nat.eq_of_beq_eq_true hT
      refine ⟨_, h2, fun ho => ?_, fun q hq => ?_⟩
      · obtain ⟨l, vs, h5, h6, h7⟩ := ho
        exact ⟨l, vs, by rw [hi]; exact h5, h6, cells_meet hH hB ps cs a b h vs h3 h4 hq1 h7⟩
      · obtain ⟨l, h5, h6⟩ := hq
        exact ⟨l, by rw [← hi]; exact h5, h6⟩
    | _ => simp [leafO] at h1
  | row e t fs =>
    cases o with
    | row e' t' xs foc =>
      obtain ⟨he, hq1⟩ := onlyIf_some (show onlyIf (Nat.beq e e') (unitO (castO t xs)) = some h from h1)
      obtain rfl := Nat.eq_of_beq_eq_true he
      obtain ⟨ht, hxs⟩ := castO_some (unitO_some hq1)
      subst ht
      have hxs : h.1 = xs := hxs
      obtain ⟨l, h3, h4⟩ := focK_ok (show focK L h.1 fs (fun l => k (.row e t' h.1 l)) = some r from h2)
      refine ⟨_, h3, fun ho => ?_, fun q hq => ?_⟩
      · obtain ⟨lo, rows, h5, hn, hcc, h6, h7, h8, h9', h10⟩ := ho
        rw [← hxs] at hn h9'
        refine ⟨lo, rows, by rw [hi]; exact h5, hn, hcc, h6, h7, h8, h9', fun p hp => ?_⟩
        obtain ⟨sl, id', off, h11, h12, h13⟩ := h4 p hp
        refine ⟨h13, ?_⟩
        have hf' := hf e t' fs rfl
        have hf2 := List.all_eq_true.1 hf' _ h11
        simp only [Bool.and_eq_true, List.any_eq_true] at hf2
        obtain ⟨⟨p0, hp0, hb⟩, hk1, hk2⟩ := hf2
        have hq := Nat.eq_of_beq_eq_true hb
        obtain ⟨_, lq, oo, h14, h15, h16, h17⟩ := h10 p0 hp0
        obtain ⟨l2, h18, h19⟩ := hk _ _ _ _ _ hk1 h12
        rw [hq, h18] at h14
        obtain rfl := Option.some.inj h14
        have hix : p0.2.1 = p.2.1 := by rw [← h17, h19]
        exact ⟨l2, oo, by rw [hgk _ hk2]; exact h18, h15, by rw [← hix]; exact h16, h19⟩
      · obtain ⟨l, a, h5, h6⟩ := hq
        exact ⟨l, a, by rw [← hi]; exact h5, h6⟩
    | _ => simp [leafO] at h1
  | map T kt vt =>
    cases o with
    | map T' kt' vt' ks vs foc =>
      obtain ⟨hT, hq1⟩ := onlyIf_some (show onlyIf (Nat.beq T T') (pairO (castO kt ks) (unitO (castO vt vs))) = some h from h1)
      obtain rfl := Nat.eq_of_beq_eq_true hT
      obtain ⟨hk1, hv1⟩ := pairO_some hq1
      obtain ⟨ht1, hks⟩ := castO_some hk1
      obtain ⟨ht2, hvs⟩ := castO_some (unitO_some hv1)
      subst ht1; subst ht2
      have hks : h.1 = ks := hks
      have hvs : h.2.1 = vs := hvs
      refine ⟨_, h2, fun ho => ?_, fun q hq => ?_⟩
      · obtain ⟨l, es, c, h5, h6, h7, _⟩ := ho
        refine ⟨l, es, c, by rw [hi]; exact h5, h6, ?_, fun p hp => nomatch hp⟩
        rw [hks, hvs]; exact h7
      · obtain ⟨l, h5, h6⟩ := hq
        exact ⟨l, by rw [← hi]; exact h5, h6⟩
    | _ => simp [leafO] at h1
theorem bindO_cons {H : Nat → Option (Obj E)} {j : Nat} {sf : Bool} {p : OP} {l : List (Nat × Bool × OP)} {a b : Bd} (h : bindO H ((j, sf, p) :: l) a = some b) :
    ∃ a1 a2, Bd.Le a a1 ∧ Bd.Le a1 a2 ∧ (sf = true → aget j a1 = some j) ∧ bindO H l a2 = some b ∧ ∀ T ps, p = .cells T ps → ∃ id T' cs, aget j a1 = some id ∧ H id = some (.box T' cs) ∧ bindC ps cs a1 = some a2 := by
  have first : ∃ a1, selfB sf j a = some a1 ∧ Bd.Le a a1 ∧ (sf = true → aget j a1 = some j) := by
    cases sf with
    | false => exact ⟨a, rfl, Bd.Le.refl a, fun e => nomatch e⟩
    | true =>
      cases ha : addB j j a with
      | none =>
        unfold bindO selfB at h
        simp only [ha] at h
        cases h
      | some a1 => exact ⟨a1, ha, (addB_ok ha).1, fun _ => (addB_ok ha).2⟩
  obtain ⟨a1, h1, h2, h3⟩ := first
  unfold bindO at h
  rw [h1] at h
  simp only at h
  cases p with
  | box T t => exact ⟨a1, a1, h2, Bd.Le.refl a1, h3, h, fun _ _ e => nomatch e⟩
  | row e t fs => exact ⟨a1, a1, h2, Bd.Le.refl a1, h3, h, fun _ _ e => nomatch e⟩
  | map T k v => exact ⟨a1, a1, h2, Bd.Le.refl a1, h3, h, fun _ _ e => nomatch e⟩
  | cells T ps =>
    simp only at h
    cases hj : aget j a1 with
    | none => simp only [hj] at h; cases h
    | some id =>
      simp only [hj] at h
      cases ho : H id with
      | none => simp only [ho] at h; cases h
      | some o =>
        cases o with
        | box T' cs =>
          simp only [ho] at h
          cases hb : bindC ps cs a1 with
          | none => simp only [hb] at h; cases h
          | some a2 =>
            simp only [hb] at h
            exact ⟨a1, a2, h2, bindC_le hb, h3, h, fun T2 ps2 e => by injection e with e1 e2; subst e2; exact ⟨id, T', cs, hj, ho, hb⟩⟩
        | _ => simp only [ho] at h; cases h
theorem bindO_le {H : Nat → Option (Obj E)} : ∀ {l : List (Nat × Bool × OP)} {a b : Bd}, bindO H l a = some b → Bd.Le a b ∧ ∀ j, j ∈ selfs l → aget j b = some j
  | [], a, b, h => by obtain rfl := Option.some.inj h; exact ⟨Bd.Le.refl _, fun _ hj => nomatch hj⟩
  | (j, sf, p) :: l, a, b, h => by
    obtain ⟨a1, a2, h1, h2, h3, h4, _⟩ := bindO_cons h
    obtain ⟨h5, h6⟩ := bindO_le h4
    refine ⟨(h1.trans h2).trans h5, fun i hi => ?_⟩
    cases sf with
    | false => exact h6 i hi
    | true =>
      rcases List.mem_cons.1 hi with rfl | hi
      · exact (h2.trans h5) _ _ (h3 rfl)
      · exact h6 i hi
theorem leafOs_cons {H : Nat → Option (Obj E)} {bs : Bd} {j : Nat} {sf : Bool} {p : OP} {l : List (Nat × Bool × OP)} {h : HL E.S (objsT ((j, sf, p) :: l))} (e : leafOs H bs ((j, sf, p) :: l) = some h) :
    ∃ id o h1 h2, aget j bs = some id ∧ H id = some o ∧ leafO H p o = some h1 ∧ leafOs H bs l = some h2 ∧ h = hap h1 h2 := by
  unfold leafOs at e
  cases hj : aget j bs with
  | none => rw [hj] at e; cases e
  | some id =>
    rw [hj] at e
    cases ho : H id with
    | none => simp only [ho] at e; cases e
    | some o =>
      simp only [ho] at e
      obtain ⟨a, b, h1, h2, h3⟩ := hapO_some e
      exact ⟨id, o, a, b, rfl, ho, h1, h2, h3⟩
theorem objs_meet {H : Nat → Option (Obj E)} {L : Nat → Option (SV E)} {R : Type} {r : R} (hH : HR P E Bs F0 w0 w z g H) {bs : Bd} (hB : Bound g g' bs) {keep gkeep : List Nat} (hgk : ∀ i, memN i gkeep = true → g' i = g i)
    (hk : ∀ sl id q i off, memN sl keep = true → L sl = some (.v (.one (.elo id q i off))) → ∃ l, g q = some l ∧ l.ix = i) : ∀ (l : List (Nat × Bool × OP)) (a b : Bd) (h : HL E.S (objsT l)) (k : Chs E → Option R),
    bindO H l a = some b → Bd.Le b bs → leafOs H bs l = some h → focOK H bs keep gkeep l = true → newOs L l h k = some r →
    ∃ u, k u = some r ∧ ∀ i o', (i, o') ∈ u → ∃ id o p, aget i bs = some id ∧ H id = some o ∧ o' = some p ∧ (ObjR P E z g w id o → ObjR P E z g' w i p) ∧ ∀ q, fpO g' i p q → fpO g id o q := by
  intro l
  induction l with
  | nil => intro a b h k _ _ _ _ h5; exact ⟨[], h5, fun _ _ hm => nomatch hm⟩
  | cons q l ih =>
    obtain ⟨j, sf, p⟩ := q
    intro a b h k h1 h2 h3 h4 h5
    obtain ⟨id, o, y1, y2, hj, ho, hl1, hl2, rfl⟩ := leafOs_cons h3
    obtain ⟨a1, a2, ha1, ha2, _, hb, hcell⟩ := bindO_cons h1
    have h6 : newO L p (hfst p.T (objsT l) (hap y1 y2)) (fun o => newOs L l (hsnd p.T (objsT l) (hap y1 y2)) fun u => k ((j, some o) :: u)) = some r := h5
    rw [hfst_hap, hsnd_hap] at h6
    have hfoc : focOK H bs keep gkeep l = true ∧ ∀ e t fs, p = .row e t fs → focB o keep gkeep fs = true := by
      cases p with
      | row e t fs =>
        unfold focOK at h4
        simp only [hj, ho, Bool.and_eq_true] at h4
        refine ⟨h4.2, fun e2 t2 fs2 he => ?_⟩
        injection he with _ _ he
        subst he
        unfold focB
        cases o <;> first | exact h4.1 | cases h4.1
      | _ => exact ⟨h4, fun _ _ _ he => nomatch he⟩
    have hle2 : Bd.Le a2 bs := (bindO_le hb).1.trans h2
    obtain ⟨o', h7, h8, h9⟩ := obj_meet hH hB hgk hk (hB j id hj) hl1 h6 hfoc.2 fun T ps hp T' cs hcs => by
      obtain ⟨id2, T2, cs2, h10, h11, h12⟩ := hcell T ps hp
      have h13 := hle2 _ _ (ha2 _ _ h10)
      rw [hj] at h13
      obtain rfl := Option.some.inj h13
      rw [ho, hcs] at h11
      injection h11 with h11
      injection h11 with _ h11
      subst h11
      exact ⟨a1, a2, h12, hle2⟩
    obtain ⟨u, h10, h11⟩ := ih a2 b y2 _ hb h2 hl2 hfoc.1 h7
    refine ⟨_, h10, fun i o2 hm => ?_⟩
    rcases List.mem_cons.1 hm with he | hm
    · injection he with e1 e2
      subst e1; subst e2
      exact ⟨id, o, o', hj, ho, rfl, h8, h9⟩
    · exact h11 i o2 hm
theorem St.L_cons {b : Ba E} {s : St E} {t t' : Nat} {v : Option (SV E)} : St.L b { s with env := (t, v) :: s.env } t' = if t' = t then v else s.L b t' := by
  unfold St.L
  simp only [aget]
  by_cases h : t' = t
  · subst h
    have : Nat.beq t' t' = true := by simp
    rw [this, if_pos rfl]
  · have : Nat.beq t' t = false := by
      cases hb : Nat.beq t' t with
      | false => rfl
      | true => exact absurd (Nat.eq_of_beq_eq_true hb) h
    rw [this, if_neg h]
def PrepIs (P : Program) (E : TE) (Bs : List Nat) (F0 : Nat → Prop) (w0 w : World) (z : Fz) (g : Ga) (H : Nat → Option (Obj E)) (ps : List (Option (TypeId × Ty))) (cs : List (SC E)) (n : Nat) : Prop :=
  ∃ l u m g', (∀ {α : Type} (k : List (SC E) → Chs E → Nat → α), prepW ps cs n k = k l u m) ∧ g.Le g' ∧ Fresh g' m ∧ HR P E Bs F0 w0 w z g' (upH H u) ∧ (∀ z g2 vs, g'.Le g2 → All2 (RC P E z g2) cs vs → All2 (RC P E z g2) l vs) ∧ (∀ i o, (i, o) ∈ u → n ≤ i) ∧ n ≤ m
theorem PrepIs.step {z : Fz} {g : Ga} {H : Nat → Option (Obj E)} {p : Option (TypeId × Ty)} {ps : List (Option (TypeId × Ty))} {c : SC E} {cs : List (SC E)} {n : Nat} (h : PrepIs P E Bs F0 w0 w z g H ps cs n) (he : ∀ {α : Type} (k : List (SC E) → Chs E → Nat → α), prepW (p :: ps) (c :: cs) n k = prepW ps cs n fun l u m => k (c :: l) u m) :
    PrepIs P E Bs F0 w0 w z g H (p :: ps) (c :: cs) n := by
  obtain ⟨l, u, m, g', h1, h2, h3, h4, h5, h6, h7⟩ := h
  exact ⟨c :: l, u, m, g', (fun k => (he k).trans (h1 _)), h2, h3, h4, (fun z g2 vs hg hv => by
    cases hv with
    | cons hx hr => exact .cons hx (h5 z g2 _ hg hr)), h6, h7⟩
theorem prepW_ok {z : Fz} : ∀ (ps : List (Option (TypeId × Ty))) (cs : List (SC E)) {n : Nat} {g : Ga} {H : Nat → Option (Obj E)}, HR P E Bs F0 w0 w z g H → Fresh g n → PrepIs P E Bs F0 w0 w z g H ps cs n
  | [], cs, n, g, H, hH, hf => ⟨cs, [], n, g, (fun _ => by cases cs <;> rfl), Ga.Le.refl g, hf, hH, (fun _ _ _ _ h => h), (fun _ _ h => nomatch h), Nat.le_refl _⟩
  | p :: ps, [], n, g, H, hH, hf => ⟨[], [], n, g, (fun _ => by cases p <;> rfl), Ga.Le.refl g, hf, hH, (fun _ _ _ _ h => h), (fun _ _ h => nomatch h), Nat.le_refl _⟩
  | p :: ps, c :: cs, n, g, H, hH, hf => by
    have ih := prepW_ok ps cs hH hf
    cases p with
    | none => exact ih.step fun k => by cases c <;> rfl
    | some q =>
      obtain ⟨e, ty⟩ := q
      cases c with
      | nils =>
        have hnew := hH.row_new (e := e) (t := ty) (xs := []) (A := none) (cap := 0) (n := 0) (rows := []) hf (Ext.refl w) rfl ⟨by simp, .inl ⟨rfl, rfl⟩⟩ rfl (fun i x r h1 _ => by simp at h1) (fun q ⟨a, ha, _⟩ => nomatch ha)
        obtain ⟨l, u, m, g', h1, h2, h3, h4, h5, h6, h7⟩ := prepW_ok ps cs hnew (hf.put _)
        refine ⟨.own n :: l, u ++ [(n, some (.row e ty [] []))], m, g', (fun k => ?_), (Ga.le_put hf.self).trans h2, h3, by rw [← upH_append]; exact h4, (fun z g2 vs hg hv => ?_), (fun i o ho => ?_), by omega⟩
        · simp only [prepW]
          exact h1 _
        · cases hv with
          | cons hx hr => exact .cons ⟨_, hg _ _ (h2 _ _ (Ga.put_self _ _ _)), hx⟩ (h5 z g2 _ hg hr)
        · rcases List.mem_append.1 ho with ho | ho
          · have := h6 i o ho; omega
          · obtain ⟨rfl, _⟩ := Prod.mk.inj (List.mem_singleton.1 ho); exact Nat.le_refl _
      | _ => exact ih.step fun k => rfl
theorem prepS_ok {F0 : Org} {b : Ba E} {s : St E} {objs : List (Nat × Bool × OP)} {p : Nat × VP} {a : Act} (h : Rel P E Bs F0 w0 N (s.L b) (s.H b) s.nx a w) : Rel P E Bs F0 w0 N ((prepS b s objs p).L b) ((prepS b s objs p).H b) (prepS b s objs p).nx a w := by
  unfold prepS
  split
  · rename_i t j
    split
    · rename_i e ty hL hrow
      obtain ⟨z, g, hE, hH, hf, hz0, hg0⟩ := h
      refine ⟨z, g.put s.nx ⟨none, 0, 0, E.size ty, 0, 0⟩, ⟨hE.size, hE.defers, fun t' u hu => ?_⟩, ?_, hf.put _, hz0, hg0.trans (Ga.le_put hf.self)⟩
      · have hu' : (if t' = t then some (SV.v (.one (.own s.nx))) else s.L b t') = some u := by rw [← hu]; exact (St.L_cons (s := { s with heap := (s.nx, some (.row e ty [] [])) :: s.heap, nx := s.nx + 1 })).symm
        split at hu'
        · rename_i ht
          subst ht
          obtain rfl := Option.some.inj hu'
          obtain ⟨v, h1, h2⟩ := hE.get _ _ hL
          have h3 : v = .slice none 0 0 := h2
          exact ⟨v, h1, _, Ga.put_self _ _ _, h3⟩
        · obtain ⟨v, h1, h2⟩ := hE.get _ _ hu'
          exact ⟨v, h1, h2.le (Fz.Le.refl z) (Ga.le_put hf.self)⟩
      · have := hH.row_new (e := e) (t := ty) (xs := []) (A := none) (cap := 0) (n := 0) (rows := []) hf (Ext.refl w) rfl ⟨by simp, .inl ⟨rfl, rfl⟩⟩ rfl (fun i x r h1 _ => by simp at h1) (fun q ⟨a, ha, _⟩ => nomatch ha)
        exact this
    · exact h
  · rename_i t ty
    split
    · rename_i x hL
      obtain ⟨z, g, hE, hH, hf, hz0, hg0⟩ := h
      obtain ⟨z', h1, h2⟩ := frzL_ok hH x.cs
      refine ⟨z', g, hE.le h1 (Ga.Le.refl g), ?_, hf, hz0.trans h1, hg0⟩
      unfold St.H at h2 ⊢
      rw [upH_append] at h2
      exact h2
    · exact h
  · rename_i t ps
    split
    · rename_i cs hL
      obtain ⟨z, g, hE, hH, hf, hz0, hg0⟩ := h
      obtain ⟨l, u, m, g', h1, h2, h3, h4, h5, _, _⟩ := prepW_ok (wantC objs ps) cs hH hf
      rw [h1]
      refine ⟨z, g', ⟨hE.size, hE.defers, fun t' x hx => ?_⟩, ?_, h3, hz0, hg0.trans h2⟩
      · have hx' : (if t' = t then some (SV.v (.agg l)) else s.L b t') = some x := by rw [← hx]; exact (St.L_cons (s := { s with heap := u ++ s.heap, nx := m })).symm
        split at hx'
        · rename_i ht
          subst ht
          obtain rfl := Option.some.inj hx'
          obtain ⟨v, k1, k2⟩ := hE.get _ _ hL
          obtain ⟨vs, k3, k4⟩ := k2
          exact ⟨v, k1, vs, k3, h5 z g' vs (Ga.Le.refl g') (k4.mono fun _ _ h => RC.le h (Fz.Le.refl z) h2)⟩
        · obtain ⟨v, k1, k2⟩ := hE.get _ _ hx'
          exact ⟨v, k1, k2.le (Fz.Le.refl z) h2⟩
      · unfold St.H at h4 ⊢
        rw [upH_append] at h4
        exact h4
    · exact h
  · exact h
theorem prepL_ok {F0 : Org} {b : Ba E} {objs : List (Nat × Bool × OP)} {a : Act} : ∀ {l : List (Nat × VP)} {s : St E}, Rel P E Bs F0 w0 N (s.L b) (s.H b) s.nx a w → Rel P E Bs F0 w0 N ((prepL b objs l s).L b) ((prepL b objs l s).H b) (prepL b objs l s).nx a w
  | [], _, h => h
  | p :: l, s, h => prepL_ok (l := l) (s := prepS b s objs p) (prepS_ok h)
theorem frzC_ok {F0 : Org} {b : Ba E} {s : St E} {a : Act} (cs : List (SC E)) (h : Rel P E Bs F0 w0 N (s.L b) (s.H b) s.nx a w) : Rel P E Bs F0 w0 N ((frzC b s cs).L b) ((frzC b s cs).H b) (frzC b s cs).nx a w := by
  obtain ⟨z, g, hE, hH, hf, hz0, hg0⟩ := h
  obtain ⟨z', h1, h2⟩ := frzL_ok hH cs
  refine ⟨z', g, hE.le h1 (Ga.Le.refl g), ?_, hf, hz0.trans h1, hg0⟩
  unfold frzC
  unfold St.H at h2 ⊢
  rw [upH_append] at h2
  exact h2
theorem frzS_ok {F0 : Org} {b : Ba E} {a : Act} : ∀ {l : List (Nat × VP)} {s : St E}, Rel P E Bs F0 w0 N (s.L b) (s.H b) s.nx a w → Rel P E Bs F0 w0 N ((frzS b l s).L b) ((frzS b l s).H b) (frzS b l s).nx a w
  | [], _, h => h
  | p :: l, s, h => by
    refine frzS_ok (l := l) (s := frzS1 b s p) ?_
    unfold frzS1
    split
    · split
      · exact frzC_ok _ h
      · exact h
    · exact h
theorem frzOs_ok {F0 : Org} {b : Ba E} {a : Act} : ∀ {l : List (Nat × Bool × OP)} {s : St E}, Rel P E Bs F0 w0 N (s.L b) (s.H b) s.nx a w → Rel P E Bs F0 w0 N ((frzOs b l s).L b) ((frzOs b l s).H b) (frzOs b l s).nx a w
  | [], _, h => h
  | p :: l, s, h => by
    refine frzOs_ok (l := l) (s := frzO1 b s p) ?_
    unfold frzO1
    split
    · split
      · exact frzC_ok _ h
      · exact h
    · split
      · exact frzC_ok _ h
      · exact h
    · exact h
theorem upH_far {H : Nat → Option (Obj E)} {i n : Nat} : ∀ {u : Chs E}, (∀ j o, (j, o) ∈ u → n ≤ j) → i < n → upH H u i = H i
  | [], _, _ => rfl
  | (j, p) :: u, h, hi => by
    simp only [upH]
    have : Nat.beq i j = false := by
      cases hb : Nat.beq i j with
      | false => rfl
      | true => have := Nat.eq_of_beq_eq_true hb; have := h j p (List.mem_cons_self ..); omega
    rw [this]
    exact upH_far (u := u) (fun j o hj => h j o (List.mem_cons_of_mem _ hj)) hi
theorem prepO1_ok {F0 : Org} {b : Ba E} {s : St E} {objs : List (Nat × Bool × OP)} {p : Nat × Bool × OP} {a : Act} (h : Rel P E Bs F0 w0 N (s.L b) (s.H b) s.nx a w) : Rel P E Bs F0 w0 N ((prepO1 b objs s p).L b) ((prepO1 b objs s p).H b) (prepO1 b objs s p).nx a w := by
  unfold prepO1
  split
  · rename_i j T' ps
    split
    · rename_i T cs hi
      obtain ⟨z, g, hE, hH, hf, hz0, hg0⟩ := h
      obtain ⟨l, u, m, g', h1, h2, h3, h4, h5, h6, h7⟩ := prepW_ok (wantC objs ps) cs hH hf
      rw [h1]
      obtain ⟨lo, hl⟩ := (hH.hold _ _ hi).loc
      have hj : j < s.nx := by
        rcases Nat.lt_or_ge j s.nx with h8 | h8
        · exact h8
        · rw [hf j h8] at hl; cases hl
      have hju : upH (s.H b) u j = some (.box T cs) := (upH_far h6 hj).trans hi
      have h8 := h4.up (Ga.Le.refl g') hju (o2 := .box T l) (fun z w ho => by
        obtain ⟨lo', vs, k1, k2, k3⟩ := ho
        exact ⟨lo', vs, k1, k2, h5 z g' vs (Ga.Le.refl g') k3⟩) (fun k => Iff.rfl)
      refine ⟨z, g', ⟨hE.size, hE.defers, fun t' x hx => ?_⟩, ?_, h3, hz0, hg0.trans h2⟩
      · obtain ⟨v, k1, k2⟩ := hE.get t' x hx
        exact ⟨v, k1, k2.le (Fz.Le.refl z) h2⟩
      · unfold St.H at h8 ⊢
        rw [upH_append, upH_append] at h8
        exact h8
    · exact h
  · exact h
theorem prepO_ok {F0 : Org} {b : Ba E} {objs : List (Nat × Bool × OP)} {a : Act} : ∀ {l : List (Nat × Bool × OP)} {s : St E}, Rel P E Bs F0 w0 N (s.L b) (s.H b) s.nx a w → Rel P E Bs F0 w0 N ((prepO b objs l s).L b) ((prepO b objs l s).H b) (prepO b objs l s).nx a w
  | [], _, h => h
  | p :: l, s, h => prepO_ok (l := l) (s := prepO1 b objs s p) (prepO1_ok h)
theorem prepLO_ok {F0 : Org} {b : Ba E} {objs l2 : List (Nat × Bool × OP)} {a : Act} {l : List (Nat × VP)} {s : St E} (h : Rel P E Bs F0 w0 N (s.L b) (s.H b) s.nx a w) : Rel P E Bs F0 w0 N ((prepO b objs l2 (prepL b objs l s)).L b) ((prepO b objs l2 (prepL b objs l s)).H b) (prepO b objs l2 (prepL b objs l s)).nx a w :=
  prepO_ok (prepL_ok h)
theorem prepV_ok {z : Fz} {g : Ga} {H : Nat → Option (Obj E)} {n : Nat} (t : Ty) (m : Mk) (x : V1 E) (hH : HR P E Bs F0 w0 w z g H) (hf : Fresh g n) :
    ∃ x' u n' g', (∀ {α : Type} (k : V1 E → Chs E → Nat → α), prepV E t m x n k = k x' u n') ∧ g.Le g' ∧ Fresh g' n' ∧ HR P E Bs F0 w0 w z g' (upH H u) ∧ (∀ z g2 v, g'.Le g2 → R1 P E z g2 x v → R1 P E z g2 x' v) ∧ (∀ i o, (i, o) ∈ u → n ≤ i) ∧ n ≤ n' := by
  cases x with
  | agg l =>
    obtain ⟨l', u, n', g', h1, h2, h3, h4, h5, h6, h7⟩ := prepW_ok (wantM m (E.flat t)) l hH hf
    refine ⟨.agg l', u, n', g', (fun k => ?_), h2, h3, h4, (fun z g2 v hg hv => ?_), h6, h7⟩
    · simp only [prepV]; exact h1 _
    · obtain ⟨vs, e, hv⟩ := hv; exact ⟨vs, e, h5 z g2 vs hg hv⟩
  | one c =>
    obtain ⟨l', u, n', g', h1, h2, h3, h4, h5, h6, h7⟩ := prepW_ok (wantM m (E.flat t)) [c] hH hf
    rcases l' with _ | ⟨c', _ | ⟨c2, l2⟩⟩
    · exact ⟨.one c, [], n, g, (fun k => by simp only [prepV]; exact h1 _), Ga.Le.refl g, hf, hH, (fun _ _ _ _ h => h), (fun _ _ h => nomatch h), Nat.le_refl _⟩
    · exact ⟨.one c', u, n', g', (fun k => by simp only [prepV]; exact h1 _), h2, h3, h4, (fun z g2 v hg hv => by
        have h8 : All2 (RC P E z g2) [c'] [v] := h5 z g2 [v] hg (.cons hv .nil)
        cases h8 with
        | cons h9 _ => exact h9), h6, h7⟩
    · exact ⟨.one c, [], n, g, (fun k => by simp only [prepV]; exact h1 _), Ga.Le.refl g, hf, hH, (fun _ _ _ _ h => h), (fun _ _ h => nomatch h), Nat.le_refl _⟩
theorem prepRs_ok {z : Fz} : ∀ (rs : Rs) (xs : List (V1 E)) {n : Nat} {g : Ga} {H : Nat → Option (Obj E)}, HR P E Bs F0 w0 w z g H → Fresh g n →
    ∃ xs' u n' g', (∀ {α : Type} (k : List (V1 E) → Chs E → Nat → α), prepRs E rs xs n k = k xs' u n') ∧ g.Le g' ∧ Fresh g' n' ∧ HR P E Bs F0 w0 w z g' (upH H u) ∧ (∀ z g2 vs, g'.Le g2 → All2 (R1 P E z g2) xs vs → All2 (R1 P E z g2) xs' vs) ∧ (∀ i o, (i, o) ∈ u → n ≤ i) ∧ n ≤ n'
  | [], xs, n, g, H, hH, hf => ⟨xs, [], n, g, (fun k => by cases xs <;> rfl), Ga.Le.refl g, hf, hH, (fun _ _ _ _ h => h), (fun _ _ h => nomatch h), Nat.le_refl _⟩
  | p :: rs, [], n, g, H, hH, hf => ⟨[], [], n, g, (fun k => rfl), Ga.Le.refl g, hf, hH, (fun _ _ _ _ h => h), (fun _ _ h => nomatch h), Nat.le_refl _⟩
  | (t, m) :: rs, x :: xs, n, g, H, hH, hf => by
    obtain ⟨x', u, n1, g1, h1, h2, h3, h4, h5, h6, h7⟩ := prepV_ok t m x hH hf
    obtain ⟨xs', u', n2, g2, k1, k2, k3, k4, k5, k6, k7⟩ := prepRs_ok rs xs h4 h3
    refine ⟨x' :: xs', u' ++ u, n2, g2, (fun k => ?_), h2.trans k2, k3, by rw [← upH_append]; exact k4, (fun z g3 vs hg hv => ?_), (fun i o ho => ?_), by omega⟩
    · simp only [prepRs]
      exact (h1 _).trans (k1 _)
    · cases hv with
      | cons hx hr => exact .cons (h5 z g3 _ (k2.trans hg) hx) (k5 z g3 _ hg hr)
    · rcases List.mem_append.1 ho with ho | ho
      · have := k6 i o ho; omega
      · exact h6 i o ho
end
end Rt
end Go
namespace Go
namespace Rt
open Go.RowKit
section
variable {P : Program} {E : TE} {w w0 : World} {Bs : List Nat} {F0 : Org} {N : Nat}
theorem aget_mem {α : Type} {t : Nat} {v : α} : ∀ {l : List (Nat × α)}, aget t l = some v → (t, v) ∈ l
  | [], h => by cases h
  | (u, x) :: l, h => by
    simp only [aget] at h
    split at h
    · rename_i hb
      obtain rfl := Nat.eq_of_beq_eq_true hb
      obtain rfl := Option.some.inj h
      exact List.mem_cons_self ..
    · exact List.mem_cons_of_mem _ (aget_mem h)
theorem aget_filt {α : Type} {t : Nat} {K : List Nat} : ∀ {l : List (Nat × α)}, aget t (filtK K l) = match memN t K with | true => aget t l | false => none
  | [] => by cases memN t K <;> rfl
  | (u, x) :: l => by
    have ih := aget_filt (t := t) (K := K) (l := l)
    unfold filtK at ih ⊢
    simp only [List.filter_cons]
    cases hb : Nat.beq t u with
    | true =>
      obtain rfl := Nat.eq_of_beq_eq_true hb
      cases hm : memN t K with
      | true =>
        simp only [if_true, aget]
        have : Nat.beq t t = true := by simp
        rw [this]
      | false =>
        rw [hm] at ih
        simp only [Bool.false_eq_true, if_false]
        exact ih
    | false =>
      have : aget t ((u, x) :: l) = aget t l := by simp only [aget, hb]
      rw [this]
      split
      · simp only [aget, hb]
        exact ih
      · exact ih
theorem seen_filter {K : List Nat} {vis : Option (List Nat)} {t : Nat} : seen (some (K.filter (seen vis))) t = (memN t K && seen vis t) := by
  show memN t (K.filter (seen vis)) = _
  induction K with
  | nil => rfl
  | cons u K ih =>
    simp only [List.filter_cons, memN]
    cases hb : Nat.beq t u with
    | true =>
      obtain rfl := Nat.eq_of_beq_eq_true hb
      cases hs : seen vis t with
      | true => simp [memN]
      | false =>
        rw [hs, Bool.and_false] at ih
        simp [ih]
    | false =>
      cases hs : seen vis u with
      | true => simp [memN, hb, ih]
      | false => simp [ih]
theorem goS_L {j : JP} {b : Ba E} {s : St E} {env : List (Nat × Option (SV E))} {u : Chs E} {t : Nat} {x : SV E} (h : (j.goS s env u).L b t = some x) : aget t env = some (some x) ∨ (memN t j.keep = true ∧ s.L b t = some x) := by
  unfold JP.goS St.L at h
  simp only [aget_append, aget_filt, seen_filter] at h
  cases he : aget t env with
  | some v => rw [he] at h; simp only at h; subst h; exact .inl rfl
  | none =>
    rw [he] at h
    cases hm : memN t j.keep with
    | false => rw [hm] at h; simp at h
    | true =>
      rw [hm] at h
      refine .inr ⟨rfl, ?_⟩
      unfold St.L
      simpa using h
theorem goS_H {j : JP} {b : Ba E} {s : St E} {env : List (Nat × Option (SV E))} {u : Chs E} {i : Nat} {o : Obj E} (h : (j.goS s env u).H b i = some o) : (i, some o) ∈ u ∨ (memN i j.hkeep = true ∧ s.H b i = some o) := by
  unfold JP.goS St.H at h
  simp only [upH_get, aget_append, aget_filt, seen_filter] at h
  cases he : aget i u with
  | some v => rw [he] at h; simp only at h; subst h; exact .inl (aget_mem he)
  | none =>
    rw [he] at h
    cases hm : memN i j.hkeep with
    | false => rw [hm] at h; simp at h
    | true =>
      rw [hm] at h
      refine .inr ⟨rfl, ?_⟩
      unfold St.H
      rw [upH_get]
      simpa using h
theorem JP.mt_some {j : JP} {b : Ba E} {s0 : St E} {h : HL E.S j.T} (e : j.mt b s0 = some h) : ∃ s bs1 bs h1 h2, s = prepO b j.objs j.objs (prepL b j.objs j.slots (frzOs b j.objs (frzS b j.slots s0))) ∧ bindS (s.L b) j.slots [] = some bs1 ∧ bindO (s.H b) j.objs bs1 = some bs ∧
    j.mtB b.lo s bs = true ∧ focOK (s.H b) bs j.keep j.gkeep j.objs = true ∧ leafS (s.L b) (s.H b) j.slots = some h1 ∧ leafOs (s.H b) bs j.objs = some h2 ∧ h = hap h1 h2 := by
  unfold JP.mt at e
  generalize hs : prepO b j.objs j.objs (prepL b j.objs j.slots (frzOs b j.objs (frzS b j.slots s0))) = s at e
  simp only at e
  cases hb1 : bindS (s.L b) j.slots [] with
  | none => rw [hb1] at e; cases e
  | some bs1 =>
    rw [hb1] at e
    simp only at e
    cases hb2 : bindO (s.H b) j.objs bs1 with
    | none => rw [hb2] at e; cases e
    | some bs =>
      rw [hb2] at e
      obtain ⟨h1, h2⟩ := onlyIf_some e
      obtain ⟨a1, a2, h3, h4, h5⟩ := hapO_some h2
      simp only [Bool.and_eq_true] at h1
      exact ⟨s, bs1, bs, a1, a2, rfl, hb1, hb2, h1.1, h1.2, h3, h4, h5⟩
theorem noKey_aget {α : Type} {i : Nat} {l : List (Nat × α)} (h : noKey i l = true) : aget i l = none := by
  unfold noKey at h
  split at h
  · assumption
  · cases h
theorem bd_one {bs : Bd} (h : nodupB (bs.map (·.2)) = true) {i j id : Nat} (hi : aget i bs = some id) (hj : aget j bs = some id) : i = j := by
  obtain ⟨n, hn⟩ := List.getElem?_of_mem (aget_mem hi)
  obtain ⟨m, hm⟩ := List.getElem?_of_mem (aget_mem hj)
  have h1 : (bs.map (·.2))[n]? = some id := by rw [List.getElem?_map, hn]; rfl
  have h2 : (bs.map (·.2))[m]? = some id := by rw [List.getElem?_map, hm]; rfl
  have := nodup_get h h1 h2
  subst this
  rw [hn] at hm
  have := Option.some.inj hm
  exact congrArg Prod.fst this
def moved (g : Ga) (lo : Nat) (K : List Nat) (bs : Bd) : Ga := fun i => match memN i K || Nat.blt i lo with
  | true => g i
  | false => match aget i bs with
    | some id => g id
    | none => none
theorem JP.ok {j : JP} {b : Ba E} {s s0 : St E} {h : HL E.S j.T} {a : Act} {R : Type} {k : St E → Option R} {r : R} (hlo : Fresh F0.g b.lo) (hm : j.mt (s.base b) s0 = some h) (hR : Rel P E Bs F0 w0 N (s0.L (s.base b)) (s0.H (s.base b)) s0.nx a w) (hg : j.go b s h k = some r) :
    ∃ s', k s' = some r ∧ Rel P E Bs F0 w0 N (s'.L b) (s'.H b) s'.nx a w := by
  obtain ⟨s1, bs1, bs, h1, h2, hs1, hb1, hb2, hB, hfoc, hl1, hl2, rfl⟩ := JP.mt_some hm
  have hR1 := prepLO_ok (objs := j.objs) (l2 := j.objs) (l := j.slots) (frzOs_ok (l := j.objs) (frzS_ok (l := j.slots) hR))
  rw [← hs1] at hR1
  obtain ⟨z, g, hE, hH, hf, hz0, hg0⟩ := hR1
  unfold JP.mtB at hB
  simp only [Bool.and_eq_true] at hB
  obtain ⟨⟨⟨hlx, hself⟩, hk1⟩, hk2, hnd, hd1, hd2, hn1, hn2⟩ := hB
  unfold JP.go at hg
  rw [hfst_hap] at hg
  cases hns : newS j.slots h1 with
  | none => rw [hns] at hg; cases hg
  | some env =>
    rw [hns] at hg
    simp only at hg
    obtain ⟨hgo, hg⟩ := onlyIf_some hg
    rw [hsnd_hap] at hg
    unfold JP.goB at hgo
    simp only [Bool.and_eq_true] at hgo
    obtain ⟨ho1, ho2⟩ := hgo
    -- the new places
    have keyIn : ∀ i id, aget i bs = some id → memN i (j.hkeep ++ j.gkeep) = false := fun i id e => disj_mem hd2 (List.mem_map.2 ⟨_, aget_mem e, rfl⟩)
    have hbound : Bound g (moved g b.lo (j.hkeep ++ j.gkeep) bs) bs := fun i id e => by
      unfold moved
      rw [keyIn i id e, Bool.false_or]
      split
      · rename_i hb
        have h9 := List.all_eq_true.1 hself _ (aget_mem e)
        simp only [Bool.or_eq_true] at h9
        rcases h9 with h9 | h9
        · have h10 := Nat.le_of_ble_eq_true h9
          have h11 : i < b.lo := by simpa using hb
          have : b.lo ≤ i := h10
          omega
        · rw [Nat.eq_of_beq_eq_true h9]
      · rw [e]
    have hkeepG : ∀ i, memN i (j.hkeep ++ j.gkeep) = true → moved g b.lo (j.hkeep ++ j.gkeep) bs i = g i := fun i e => by
      unfold moved
      rw [e, Bool.true_or]
    have hgk : ∀ i, memN i j.gkeep = true → moved g b.lo (j.hkeep ++ j.gkeep) bs i = g i := fun i e => hkeepG i (by rw [memN_append, e, Bool.or_true])
    have hhk : ∀ i, memN i j.hkeep = true → moved g b.lo (j.hkeep ++ j.gkeep) bs i = g i := fun i e => hkeepG i (by rw [memN_append, e, Bool.true_or])
    have hA : ∀ i, memN i (j.hkeep ++ (j.gkeep ++ selfs j.objs)) = true → moved g b.lo (j.hkeep ++ j.gkeep) bs i = g i := fun i e => by
      rw [memN_append, memN_append] at e
      simp only [Bool.or_eq_true] at e
      rcases e with e | e | e
      · exact hhk i e
      · exact hgk i e
      · exact hbound i i ((bindO_le hb2).2 i (memN_true.1 e))
    have keepL : ∀ t, memN t j.keep = true → s1.L (s.base b) t = s.L b t := fun t ht => by
      have := List.all_eq_true.1 hk1 t (memN_true.1 ht)
      simp only [Bool.and_eq_true] at this
      unfold St.L
      rw [noKey_aget this.1, this.2]
      rfl
    have keepH : ∀ i, memN i j.hkeep = true → s1.H (s.base b) i = s.H b i := fun i hi => by
      have := List.all_eq_true.1 hk2 i (memN_true.1 hi)
      simp only [Bool.and_eq_true] at this
      unfold St.H
      rw [upH_get, noKey_aget this.1, this.2]
      rfl
    obtain ⟨u, hu, hobj⟩ := objs_meet hH hbound hgk (L := s.L b) (keep := j.keep) (fun sl id q i off hsl hL => by
      rw [← keepL sl hsl] at hL
      obtain ⟨v, _, hv⟩ := hE.get sl _ hL
      obtain ⟨l, h3, h4, _⟩ := hv
      exact ⟨l, h3, h4⟩) j.objs bs1 bs h2 _ hb2 (Bd.Le.refl bs) hl2 hfoc hg
    refine ⟨_, hu, z, moved g b.lo (j.hkeep ++ j.gkeep) bs, ⟨hE.size, hE.defers, fun t x hx => ?_⟩, ?_, fun i hi => ?_, hz0, fun i l hl => ?_⟩
    · rcases goS_L hx with hx | ⟨hk, hx⟩
      · obtain ⟨sv, s2, h3, h4, h5⟩ := slots_meet hH hbound j.slots [] bs1 h1 env hb1 (bindO_le hb2).1 hl1 hns t _ hx
        obtain rfl := Option.some.inj h3
        obtain ⟨v, h6, h7⟩ := hE.get t _ h4
        exact ⟨v, h6, h5 v h7⟩
      · have hx' := hx
        rw [← keepL t hk] at hx'
        obtain ⟨v, h6, h7⟩ := hE.get t _ hx'
        have h8 := List.all_eq_true.1 ho1 t (memN_true.1 hk)
        rw [hx] at h8
        exact ⟨v, h6, h7.same hA h8⟩
    · refine hH.remap (fun i => match memN i j.hkeep with | true => i | false => (aget i bs).getD i) (fun i i' o o' e e' hff => ?_) fun i o' e => ?_
      · have kind : ∀ i o, (j.goS s env u).H b i = some o → memN i j.hkeep = true ∨ (memN i j.hkeep = false ∧ ∃ id, aget i bs = some id) := fun i o e => by
          rcases goS_H e with e | ⟨e, _⟩
          · obtain ⟨id, _, _, h3, _⟩ := hobj i _ e
            have := keyIn i id h3
            rw [memN_append, Bool.or_eq_false_iff] at this
            exact .inr ⟨this.1, id, h3⟩
          · exact .inl e
        have far : ∀ i id, aget i bs = some id → memN id j.hkeep = false := fun i id e => disj_mem hd1 (List.mem_map.2 ⟨_, aget_mem e, rfl⟩)
        rcases kind i o e with h3 | ⟨h3, id, h4⟩ <;> rcases kind i' o' e' with h3' | ⟨h3', id', h4'⟩
        · simpa [h3, h3'] using hff
        · simp only [h3, h3', h4', Option.getD_some] at hff
          subst hff
          rw [far i' _ h4'] at h3
          cases h3
        · simp only [h3, h3', h4, Option.getD_some] at hff
          subst hff
          rw [far i _ h4] at h3'
          cases h3'
        · simp only [h3, h3', h4, h4', Option.getD_some] at hff
          subst hff
          exact bd_one hnd h4 h4'
      · rcases goS_H e with e | ⟨hk, e⟩
        · obtain ⟨id, o, p, h3, h4, h5, h6, h7⟩ := hobj i _ e
          obtain rfl := Option.some.inj h5
          have := keyIn i id h3
          rw [memN_append, Bool.or_eq_false_iff] at this
          simp only [this.1, h3, Option.getD_some]
          exact ⟨o, h4, h6 (hH.hold _ _ h4), h7⟩
        · simp only [hk]
          have e2 := e
          rw [← keepH i hk] at e2
          have h8 := List.all_eq_true.1 ho2 i (memN_true.1 hk)
          rw [e] at h8
          exact ⟨o', e2, (hH.hold _ _ e2).same hA (hhk i hk) h8, fun q hq => (fpO_same (hhk i hk)).1 hq⟩
    · have hi' : j.nx ≤ i := hi
      unfold moved
      have hble : b.lo ≤ i := Nat.le_trans (Nat.le_of_ble_eq_true hlx) hi'
      have hblt : Nat.blt i b.lo = false := by
        cases hb : Nat.blt i b.lo with
        | false => rfl
        | true => have : i < b.lo := by simpa using hb
                  omega
      rw [hblt, Bool.or_false]
      cases hmem : memN i (j.hkeep ++ j.gkeep) with
      | true =>
        have := List.all_eq_true.1 hn2 i (memN_true.1 hmem)
        have : i < j.nx := by simpa using this
        omega
      | false =>
        cases hag : aget i bs with
        | none => rfl
        | some id =>
          have := List.all_eq_true.1 hn1 _ (aget_mem hag)
          have : i < j.nx := by simpa using this
          omega
    · have hblt : Nat.blt i b.lo = true := by
        rcases Nat.lt_or_ge i b.lo with h9 | h9
        · simpa using h9
        · rw [hlo i h9] at hl; cases hl
      unfold moved
      rw [hblt, Bool.or_true]
      exact hg0 i l hl
end
end Rt
end Go
namespace Go
namespace Rt
open Go.RowKit
section
variable {P : Program} {E : TE} {eqs : List (Nat × Nat)} {tab : Tab E} {N : Nat} {Bs : List Nat} {F0 : Org} {w0 : World} {RT : Type} {rv : Ba E → St E → Option RT} {Qr : RT → Act → World → Prop}
def exitOf : Option Nat → Exit
  | none => .normal
  | some i => .exit i
def CodeOK (P : Program) (E : TE) (eqs : List (Nat × Nat)) (tab : Tab E) (N : Nat) (Bs : List Nat) (F0 : Org) (w0 : World) (RT : Type) (rv : Ba E → St E → Option RT) (Qr : RT → Act → World → Prop) (c : Code) : Prop :=
  ∀ (pl : Pl) (R : Type) (b : Ba E) (s : St E) (k : Option Nat → St E → Option R) (kr : RT → Option R) (r : R) (a : Act) (w : World) (Q : Exit → Act → World → Prop),
    Fresh F0.g b.lo → evCode P E eqs tab N RT rv c pl R b s k kr = some r → Rel P E Bs F0 w0 N (s.L b) (s.H b) s.nx a w →
    (∀ ex s' a' w', k ex s' = some r → Rel P E Bs F0 w0 N (s'.L b) (s'.H b) s'.nx a' w' → Q (exitOf ex) a' w') →
    (∀ y a' w', kr y = some r → Qr y a' w' → Q .ret a' w') → c.wp P Q a w
theorem seqPlain {x y : Code} {pl pl' : Pl} {R : Type} {b : Ba E} {s : St E} {k : Option Nat → St E → Option R} {kr : RT → Option R} {r : R} {a : Act} {w : World} {Q : Exit → Act → World → Prop}
    (hlo : Fresh F0.g b.lo) (hx : CodeOK P E eqs tab N Bs F0 w0 RT rv Qr x) (hy : CodeOK P E eqs tab N Bs F0 w0 RT rv Qr y)
    (h : evCode P E eqs tab N RT rv x pl R b s (fun ex s' => match ex with
      | none => evCode P E eqs tab N RT rv y pl' R b s' k kr
      | some i => k (some i) s') kr = some r) (hR : Rel P E Bs F0 w0 N (s.L b) (s.H b) s.nx a w)
    (hk : ∀ ex s' a' w', k ex s' = some r → Rel P E Bs F0 w0 N (s'.L b) (s'.H b) s'.nx a' w' → Q (exitOf ex) a' w') (hkr : ∀ y a' w', kr y = some r → Qr y a' w' → Q .ret a' w') : (Code.seq x y).wp P Q a w := by
  refine s_join (fun a' w' => y.wp P Q a' w') (fun _ _ h => h) (hx pl R b s _ kr r a w _ hlo h hR (fun ex s' a' w' he hR' => ?_) fun y' a' w' he hq => hkr y' a' w' he hq)
  cases ex with
  | none => exact hy pl' R b s' k kr r a' w' Q hlo he hR' hk hkr
  | some i => exact hk (some i) s' a' w' he hR'
theorem blockPlain {id : Nat} {x : Code} {pl : Pl} {R : Type} {b : Ba E} {s : St E} {k : Option Nat → St E → Option R} {kr : RT → Option R} {r : R} {a : Act} {w : World} {Q : Exit → Act → World → Prop}
    (hlo : Fresh F0.g b.lo) (hx : CodeOK P E eqs tab N Bs F0 w0 RT rv Qr x)
    (h : evCode P E eqs tab N RT rv x pl R b s (fun ex s' => match ex with
      | none => k none s'
      | some i => match Nat.beq i id with
        | true => k none s'
        | false => k (some i) s') kr = some r) (hR : Rel P E Bs F0 w0 N (s.L b) (s.H b) s.nx a w)
    (hk : ∀ ex s' a' w', k ex s' = some r → Rel P E Bs F0 w0 N (s'.L b) (s'.H b) s'.nx a' w' → Q (exitOf ex) a' w') (hkr : ∀ y a' w', kr y = some r → Qr y a' w' → Q .ret a' w') : (Code.block id x).wp P Q a w := by
  refine wp_block (hx pl R b s _ kr r a w _ hlo h hR (fun ex s' a' w' he hR' => ?_) fun y' a' w' he hq => hkr y' a' w' he hq)
  cases ex with
  | none => exact hk none s' a' w' he hR'
  | some i =>
    simp only at he
    show Exit.inBlock id Q (.exit i) a' w'
    show if i = id then Q .normal a' w' else Q (.exit i) a' w'
    split at he
    · rename_i hb
      rw [if_pos (Nat.eq_of_beq_eq_true hb)]
      exact hk none s' a' w' he hR'
    · rename_i hb
      rw [if_neg (beq_false hb)]
      exact hk (some i) s' a' w' he hR'
theorem seqJoin {x y : Code} {m : JP} {px py : Pl} {R : Type} {b : Ba E} {s : St E} {k : Option Nat → St E → Option R} {kr : RT → Option R} {r : R} {a : Act} {w : World} {Q : Exit → Act → World → Prop}
    (hlo : Fresh F0.g b.lo) (hx : CodeOK P E eqs tab N Bs F0 w0 RT rv Qr x) (hy : CodeOK P E eqs tab N Bs F0 w0 RT rv Qr y)
    (h : Option.bind (evCode P E eqs tab N RT rv x px (Tp E.S m.T) (s.base b) (St.new s.nx) (fun ex s' => match ex with
        | none => (match m.mt (s.base b) s' with | some h => some (toTp m.T h) | none => none)
        | some _ => none) (fun _ => none)) (fun o => m.go b s (ofTp m.T o) fun s' => evCode P E eqs tab N RT rv y py R b s' k kr) = some r) (hR : Rel P E Bs F0 w0 N (s.L b) (s.H b) s.nx a w)
    (hk : ∀ ex s' a' w', k ex s' = some r → Rel P E Bs F0 w0 N (s'.L b) (s'.H b) s'.nx a' w' → Q (exitOf ex) a' w') (hkr : ∀ y a' w', kr y = some r → Qr y a' w' → Q .ret a' w') : (Code.seq x y).wp P Q a w := by
  obtain ⟨o, h1, h2⟩ := bind_some h
  refine s_join (fun a' w' => ∃ s', evCode P E eqs tab N RT rv y py R b s' k kr = some r ∧ Rel P E Bs F0 w0 N (s'.L b) (s'.H b) s'.nx a' w') (fun a' w' ⟨s', h3, h4⟩ => hy py R b s' k kr r a' w' Q hlo h3 h4 hk hkr)
    (hx px _ (s.base b) (St.new s.nx) _ _ o a w _ hlo h1 hR (fun ex s' a' w' he hR' => ?_) fun y' a' w' he _ => nomatch he)
  cases ex with
  | none =>
    simp only at he
    split at he
    · rename_i hh hm
      obtain rfl := Option.some.inj he
      rw [ofTp_toTp] at h2
      exact JP.ok hlo hm hR' h2
    · cases he
  | some i => cases he
theorem seqJoinR {x y : Code} {m : JP} {px py : Pl} {R : Type} {b : Ba E} {s : St E} {k : Option Nat → St E → Option R} {kr : RT → Option R} {r : R} {a : Act} {w : World} {Q : Exit → Act → World → Prop}
    (hlo : Fresh F0.g b.lo) (hx : CodeOK P E eqs tab N Bs F0 w0 RT rv Qr x) (hy : CodeOK P E eqs tab N Bs F0 w0 RT rv Qr y)
    (h : Option.bind (evCode P E eqs tab N RT rv x px (Out (Tp E.S m.T) RT) (s.base b) (St.new s.nx) (fun ex s' => match ex with
        | none => (match m.mt (s.base b) s' with | some h => some (.fall (toTp m.T h)) | none => none)
        | some _ => none) (fun r => some (.ret r))) (fun o => match o with
          | .ret r => kr r
          | .fall o => m.go b s (ofTp m.T o) fun s' => evCode P E eqs tab N RT rv y py R b s' k kr) = some r) (hR : Rel P E Bs F0 w0 N (s.L b) (s.H b) s.nx a w)
    (hk : ∀ ex s' a' w', k ex s' = some r → Rel P E Bs F0 w0 N (s'.L b) (s'.H b) s'.nx a' w' → Q (exitOf ex) a' w') (hkr : ∀ y a' w', kr y = some r → Qr y a' w' → Q .ret a' w') : (Code.seq x y).wp P Q a w := by
  obtain ⟨o, h1, h2⟩ := bind_some h
  refine s_join (fun a' w' => ∃ s', evCode P E eqs tab N RT rv y py R b s' k kr = some r ∧ Rel P E Bs F0 w0 N (s'.L b) (s'.H b) s'.nx a' w') (fun a' w' ⟨s', h3, h4⟩ => hy py R b s' k kr r a' w' Q hlo h3 h4 hk hkr)
    (hx px _ (s.base b) (St.new s.nx) _ _ o a w _ hlo h1 hR (fun ex s' a' w' he hR' => ?_) fun y' a' w' he hq => ?_)
  · cases ex with
    | none =>
      simp only at he
      split at he
      · rename_i hh hm
        obtain rfl := Option.some.inj he
        simp only at h2
        rw [ofTp_toTp] at h2
        exact JP.ok hlo hm hR' h2
      · cases he
    | some i => cases he
  · obtain rfl := Option.some.inj he
    exact hkr y' a' w' h2 hq
theorem loopPlain {id : Nat} {body : Code} {hd ex : JP} {pb : Pl} {R : Type} {b : Ba E} {s : St E} {k : Option Nat → St E → Option R} {h0 : HL E.S hd.T} {r : R} {a : Act} {w : World} {Q : Exit → Act → World → Prop}
    (hlo : Fresh F0.g b.lo) (hx : CodeOK P E eqs tab N Bs F0 w0 RT rv Qr body) (hm : hd.mt (s.base b) (St.new s.nx) = some h0)
    (h : Option.bind (loopF (fun tp => hd.go (s.base b) (St.new s.nx) (ofTp hd.T tp) fun s1 => evCode P E eqs tab N RT rv body pb (Step (Tp E.S hd.T) (Tp E.S ex.T)) (s.base b) s1 (fun e s' => match e with
            | none => (match hd.mt (s.base b) s' with | some h => some (.next (toTp hd.T h)) | none => none)
            | some i => match Nat.beq i id with
              | true => (match ex.mt (s.base b) s' with | some h => some (.done (toTp ex.T h)) | none => none)
              | false => none) (fun _ => none)) BIG (toTp hd.T h0)) (fun o => ex.go b s (ofTp ex.T o) fun s' => k none s') = some r) (hR : Rel P E Bs F0 w0 N (s.L b) (s.H b) s.nx a w)
    (hk : ∀ ex s' a' w', k ex s' = some r → Rel P E Bs F0 w0 N (s'.L b) (s'.H b) s'.nx a' w' → Q (exitOf ex) a' w') : (Code.block id (.loop body)).wp P Q a w := by
  obtain ⟨o, h1, h2⟩ := bind_some h
  refine b_join (fun a' w' => ∃ s', k none s' = some r ∧ Rel P E Bs F0 w0 N (s'.L b) (s'.H b) s'.nx a' w') (fun a' w' ⟨s', h3, h4⟩ => hk none s' a' w' h3 h4)
    (loop_rule h1 (fun tp a' w' => ∃ s0 hh, hd.mt (s.base b) s0 = some hh ∧ tp = toTp hd.T hh ∧ Rel P E Bs F0 w0 N (s0.L (s.base b)) (s0.H (s.base b)) s0.nx a' w') ⟨_, _, hm, rfl, hR⟩ ?_)
  rintro tp a1 w1 ⟨s0, hh, h3, rfl, h4⟩ st hst hdone
  rw [ofTp_toTp] at hst
  obtain ⟨s1, h5, h6⟩ := JP.ok (b := s.base b) (s := St.new s.nx) hlo h3 h4 hst
  refine hx pb _ (s.base b) s1 _ _ st a1 w1 _ hlo h5 h6 (fun e s' a' w' he hR' => ?_) fun y' a' w' he _ => nomatch he
  cases e with
  | none =>
    simp only at he
    split at he
    · rename_i h7 hm7
      exact ⟨_, (Option.some.inj he).symm, s', h7, hm7, rfl, hR'⟩
    · cases he
  | some i =>
    simp only at he
    split at he
    · rename_i hb
      split at he
      · rename_i h7 hm7
        have h8 := hdone _ (Option.some.inj he).symm
        subst h8
        rw [ofTp_toTp] at h2
        show if i = id then _ else _
        rw [if_pos (Nat.eq_of_beq_eq_true hb)]
        exact JP.ok hlo hm7 hR' h2
      · cases he
    · cases he
theorem loopPlainR {id : Nat} {body : Code} {hd ex : JP} {pb : Pl} {R : Type} {b : Ba E} {s : St E} {k : Option Nat → St E → Option R} {kr : RT → Option R} {h0 : HL E.S hd.T} {r : R} {a : Act} {w : World} {Q : Exit → Act → World → Prop}
    (hlo : Fresh F0.g b.lo) (hx : CodeOK P E eqs tab N Bs F0 w0 RT rv Qr body) (hm : hd.mt (s.base b) (St.new s.nx) = some h0)
    (h : Option.bind (loopF (fun tp => hd.go (s.base b) (St.new s.nx) (ofTp hd.T tp) fun s1 => evCode P E eqs tab N RT rv body pb (Step (Tp E.S hd.T) (Out (Tp E.S ex.T) RT)) (s.base b) s1 (fun e s' => match e with
            | none => (match hd.mt (s.base b) s' with | some h => some (.next (toTp hd.T h)) | none => none)
            | some i => match Nat.beq i id with
              | true => (match ex.mt (s.base b) s' with | some h => some (.done (.fall (toTp ex.T h))) | none => none)
              | false => none) (fun r => some (.done (.ret r)))) BIG (toTp hd.T h0)) (fun o => match o with
          | .ret r => kr r
          | .fall o => ex.go b s (ofTp ex.T o) fun s' => k none s') = some r) (hR : Rel P E Bs F0 w0 N (s.L b) (s.H b) s.nx a w)
    (hk : ∀ ex s' a' w', k ex s' = some r → Rel P E Bs F0 w0 N (s'.L b) (s'.H b) s'.nx a' w' → Q (exitOf ex) a' w') (hkr : ∀ y a' w', kr y = some r → Qr y a' w' → Q .ret a' w') : (Code.block id (.loop body)).wp P Q a w := by
  obtain ⟨o, h1, h2⟩ := bind_some h
  refine b_join (fun a' w' => ∃ s', k none s' = some r ∧ Rel P E Bs F0 w0 N (s'.L b) (s'.H b) s'.nx a' w') (fun a' w' ⟨s', h3, h4⟩ => hk none s' a' w' h3 h4)
    (loop_rule h1 (fun tp a' w' => ∃ s0 hh, hd.mt (s.base b) s0 = some hh ∧ tp = toTp hd.T hh ∧ Rel P E Bs F0 w0 N (s0.L (s.base b)) (s0.H (s.base b)) s0.nx a' w') ⟨_, _, hm, rfl, hR⟩ ?_)
  rintro tp a1 w1 ⟨s0, hh, h3, rfl, h4⟩ st hst hdone
  rw [ofTp_toTp] at hst
  obtain ⟨s1, h5, h6⟩ := JP.ok (b := s.base b) (s := St.new s.nx) hlo h3 h4 hst
  refine hx pb _ (s.base b) s1 _ _ st a1 w1 _ hlo h5 h6 (fun e s' a' w' he hR' => ?_) fun y' a' w' he hq => ?_
  · cases e with
    | none =>
      simp only at he
      split at he
      · rename_i h7 hm7
        exact ⟨_, (Option.some.inj he).symm, s', h7, hm7, rfl, hR'⟩
      · cases he
    | some i =>
      simp only at he
      split at he
      · rename_i hb
        split at he
        · rename_i h7 hm7
          have h8 := hdone _ (Option.some.inj he).symm
          subst h8
          simp only at h2
          rw [ofTp_toTp] at h2
          show if i = id then _ else _
          rw [if_pos (Nat.eq_of_beq_eq_true hb)]
          exact JP.ok hlo hm7 hR' h2
        · cases he
      · cases he
  · have h8 := hdone _ (Option.some.inj he).symm
    subst h8
    exact hkr y' a' w' h2 hq
end
end Rt
end Go
namespace Go
namespace Rt
open Go.RowKit
section
variable {P : Program} {E : TE} {eqs : List (Nat × Nat)} {tab : Tab E} {N : Nat} {Bs : List Nat} {F0 : Org} {w0 : World} {RT : Type} {rv : Ba E → St E → Option RT} {Qr : RT → Act → World → Prop}
theorem evCode_both (heq : ∀ p ∈ eqs, EqFact P E p.1 p.2) (ht : tab.OK P E) (hrv : ∀ b s a w y, Rel P E Bs F0 w0 N (s.L b) (s.H b) s.nx a w → rv b s = some y → Qr y a w) : ∀ (c : Code), CodeOK P E eqs tab N Bs F0 w0 RT rv Qr c ∧ ∀ body, c = .loop body → CodeOK P E eqs tab N Bs F0 w0 RT rv Qr body := by
  intro c
  induction c with
  | skip =>
    refine ⟨?_, fun _ e => nomatch e⟩
    intro pl R b s k kr r a w Q hlo h hR hk hkr
    rw [evCode.eq_def] at h
    exact wp_skip (hk none s a w h hR)
  | region id ops d =>
    refine ⟨?_, fun _ e => nomatch e⟩
    intro pl R b s k kr r a w Q hlo h hR hk hkr
    rw [evCode.eq_def] at h
    cases d with
    | true =>
      cases pl with
      | dr fl hs fm ids =>
        have := evDraw_ok (id := id) (Q := Q) heq ht h hR fun s' a' w' h1 h2 => hk none s' a' w' h1 h2
        rw [Array.toArray_toList] at this
        exact this
      | df fl hs p =>
        have := evFloat_ok (id := id) (Q := Q) heq ht h hR fun s' a' w' h1 h2 => hk none s' a' w' h1 h2
        rw [Array.toArray_toList] at this
        exact this
      | ot p t =>
        have := evOrd_ok (id := id) (Q := Q) heq ht h hR fun s' a' w' h1 h2 => hk none s' a' w' h1 h2
        rw [Array.toArray_toList] at this
        exact this
      | _ => cases h
    | false =>
      have := evReg_ok (id := id) (Q := Q) heq ht h hR fun s' a' w' h1 h2 => hk none s' a' w' h1 h2
      rw [Array.toArray_toList] at this
      exact this
  | seq x y hx hy =>
    refine ⟨?_, fun _ e => nomatch e⟩
    obtain ⟨hx, _⟩ := hx
    obtain ⟨hy, _⟩ := hy
    intro pl R b s k kr r a w Q hlo h hR hk hkr
    cases pl with
    | j m ret px py =>
      cases ret with
      | false => exact seqJoin hlo hx hy h hR hk hkr
      | true => exact seqJoinR hlo hx hy h hR hk hkr
    | p => exact seqPlain hlo hx hy h hR hk hkr
    | s px py => exact seqPlain hlo hx hy h hR hk hkr
    | lp hd ex ret px => exact seqPlain hlo hx hy h hR hk hkr
    | dr fl hs fm ids => exact seqPlain hlo hx hy h hR hk hkr
    | df fl hs p => exact seqPlain hlo hx hy h hR hk hkr
    | ot p t => exact seqPlain hlo hx hy h hR hk hkr
  | cond t x y hx hy =>
    refine ⟨?_, fun _ e => nomatch e⟩
    obtain ⟨hx, _⟩ := hx
    obtain ⟨hy, _⟩ := hy
    intro pl R b s k kr r a w Q hlo h hR hk hkr
    rw [evCode.eq_def] at h
    simp only at h
    split at h
    · rename_i c hc
      have hv : a.eval t = .bool c := by
        obtain ⟨z, g, hE, _, _⟩ := hR
        exact SV.bool_ok rfl (hE.op _ _ hc)
      refine wp_cond hv ?_
      cases c with
      | true => exact hx _ R b s k kr r a w Q hlo h hR hk hkr
      | false => exact hy _ R b s k kr r a w Q hlo h hR hk hkr
    · cases h
  | block id x hx =>
    refine ⟨?_, fun _ e => nomatch e⟩
    obtain ⟨hx, hl⟩ := hx
    intro pl R b s k kr r a w Q hlo h hR hk hkr
    have plain : evCode P E eqs tab N RT rv x pl R b s (fun ex s' => match ex with
      | none => k none s'
      | some i => match Nat.beq i id with
        | true => k none s'
        | false => k (some i) s') kr = some r → (Code.block id x).wp P Q a w := fun h => blockPlain hlo hx h hR hk hkr
    cases x with
    | loop body =>
      cases pl with
      | lp hd ex ret pb =>
        have hb := hl body rfl
        rw [evCode.eq_def] at h
        simp only at h
        split at h
        · cases h
        · rename_i h0 hm
          cases ret with
          | false => exact loopPlain hlo hb hm h hR hk
          | true => exact loopPlainR hlo hb hm h hR hk hkr
      | p => exact plain h
      | s px py => exact plain h
      | j m ret px py => exact plain h
      | dr fl hs fm ids => exact plain h
      | df fl hs p => exact plain h
      | ot p t => exact plain h
    | _ => exact plain h
  | exit i =>
    refine ⟨?_, fun _ e => nomatch e⟩
    intro pl R b s k kr r a w Q hlo h hR hk hkr
    exact wp_exit (hk (some i) s a w h hR)
  | scope x hx =>
    refine ⟨?_, fun _ e => nomatch e⟩
    obtain ⟨hx, _⟩ := hx
    intro pl R b s k kr r a w Q hlo h hR hk hkr
    exact wp_scope_straight (hx pl R b s k kr r a w _ hlo h hR (fun ex s' a' w' h1 h2 => by cases ex <;> exact hk _ s' a' w' h1 h2) fun y a' w' h1 h2 => hkr y a' w' h1 h2)
  | ret =>
    refine ⟨?_, fun _ e => nomatch e⟩
    intro pl R b s k kr r a w Q hlo h hR hk hkr
    rw [evCode.eq_def] at h
    simp only at h
    split at h
    · rename_i y hy
      exact wp_ret (hkr y a w h (hrv b s a w y hR hy))
    · cases h
  | loop x hx =>
    refine ⟨?_, fun body e => by injection e with e; subst e; exact hx.1⟩
    intro pl R b s k kr r a w Q hlo h hR hk hkr
    rw [evCode.eq_def] at h
    cases h
  | _ =>
    refine ⟨?_, fun _ e => nomatch e⟩
    intro pl R b s k kr r a w Q hlo h hR hk hkr
    rw [evCode.eq_def] at h
    cases h
theorem evCode_ok (heq : ∀ p ∈ eqs, EqFact P E p.1 p.2) (ht : tab.OK P E) (hrv : ∀ b s a w y, Rel P E Bs F0 w0 N (s.L b) (s.H b) s.nx a w → rv b s = some y → Qr y a w) (c : Code) : CodeOK P E eqs tab N Bs F0 w0 RT rv Qr c := (evCode_both heq ht hrv c).1
end
end Rt
end Go
namespace Go
namespace Rt
open Go.RowKit
section
variable {P : Program} {E : TE} {z z' : Fz} {g g' : Ga} {w w0 : World} {Bs : List Nat} {F0 : Nat → Prop} {N : Nat} {H : Nat → Option (Obj E)}
theorem frzR_ok (h : HR P E Bs F0 w0 w z g H) : ∀ (rs : Rs) (xs : List (V1 E)), ∃ z', z.Le z' ∧ HR P E Bs F0 w0 w z' g (upH H (frzR E H rs xs))
  | [], _ => ⟨z, Fz.Le.refl z, h⟩
  | (_, _) :: _, [] => ⟨z, Fz.Le.refl z, h⟩
  | (t, m) :: rs, x :: xs => by
    obtain ⟨z1, h1, h2⟩ := frzR_ok h rs xs
    obtain ⟨z2, h3, h4⟩ := frzL_ok h2 (unM m x.cs)
    rw [upH_append] at h4
    exact ⟨z2, h1.trans h3, h4⟩
theorem frzV_ok : ∀ (ps : List Pm) (n : Nat) {z : Fz} {H : Nat → Option (Obj E)}, HR P E Bs F0 w0 w z g H → ∃ z', z.Le z' ∧ HR P E Bs F0 w0 w z' g (upH H (frzV E H ps n))
  | [], _, z, _, h => ⟨z, Fz.Le.refl z, h⟩
  | .b _ _ :: ps, n, z, H, h => by
    obtain ⟨z1, h1, h2⟩ := frzV_ok ps (n + 1) h
    unfold frzV
    split
    · obtain ⟨z2, h3, h4⟩ := frzL_ok h2 ‹List (SC E)›
      rw [upH_append] at h4
      exact ⟨z2, h1.trans h3, h4⟩
    · exact ⟨z1, h1, h2⟩
  | .bm _ t m :: ps, n, z, H, h => by
    obtain ⟨z1, h1, h2⟩ := frzV_ok ps (n + 1 + cntO m (E.flat t)) h
    unfold frzV
    split
    · rename_i cs _
      obtain ⟨z2, h3, h4⟩ := frzL_ok h2 (unM m cs)
      rw [upH_append] at h4
      exact ⟨z2, h1.trans h3, h4⟩
    · exact ⟨z1, h1, h2⟩
  | .l t m :: ps, n, z, _, h => frzV_ok ps _ h
  | .g t m :: ps, n, z, _, h => frzV_ok ps _ h
  | .mp _ _ _ :: ps, n, z, _, h => frzV_ok ps _ h
  | .d _ :: ps, n, z, _, h => frzV_ok ps n h
  | .p _ :: ps, n, z, _, h => frzV_ok ps n h
  | .f1 _ _ :: ps, n, z, _, h => frzV_ok ps n h
  | .f2 _ _ _ :: ps, n, z, _, h => frzV_ok ps n h
theorem frzA_ok (h : HR P E Bs F0 w0 w z g H) (ps : List Pm) (rs : Rs) (xs : List (V1 E)) : ∃ z', z.Le z' ∧ HR P E Bs F0 w0 w z' g (upH H (frzA E H ps rs xs)) := by
  obtain ⟨z1, h1, h2⟩ := frzR_ok h rs xs
  obtain ⟨z2, h3, h4⟩ := frzV_ok ps 0 h2
  rw [upH_append] at h4
  exact ⟨z2, h1.trans h3, h4⟩
theorem resSV_ok {b : Ba E} {s : St E} {a : Act} {v : ResultVar} {x : V1 E} (hE : ER P E z g N a (s.L b)) (hH : HR P E Bs F0 w0 w z g (s.H b)) (h : resSV E P b s v = some x) : ∃ u, (resSem a.tmps v).run P w = .ok u w ∧ R1 P E z g x u := by
  cases v with
  | tmp t =>
    unfold resSV at h
    simp only at h
    split at h
    · rename_i y hL
      obtain rfl := Option.some.inj h
      obtain ⟨u, h1, h2⟩ := hE.get t _ hL
      refine ⟨u, ?_, h2⟩
      have : a.tmps.getD t undef = u := by rw [Array.getD_eq_getD_getElem?, h1]; rfl
      simp only [resSem, this, Sem.run_pure]
    · cases h
  | cell t T =>
    unfold resSV at h
    simp only at h
    split at h
    · rename_i c hL
      split at h
      · rename_i l off hb
        obtain ⟨u, h1, h2⟩ := hE.get t _ hL
        obtain ⟨bb, base, vs, rfl, hl, hc⟩ := behind_ok hH hb h2
        obtain ⟨v, hlv, hrv⟩ := loadC_ok h hl
        refine ⟨v, ?_, hrv⟩
        have : a.tmps.getD t undef = .pointer (some ⟨bb, base + off, none⟩) := by rw [Array.getD_eq_getD_getElem?, h1]; rfl
        have has : (asAddr (.pointer (some ⟨bb, base + off, none⟩))).run P w = .ok ⟨bb, base + off, none⟩ w := rfl
        have hload := run_loadVal (P := P) hlv (hc w (Stands.refl hH))
        simp only [resSem, this, Sem.run_bind, has, Result.andThen_ok, hload]
      · cases h
    · cases h
theorem resXs_ok {b : Ba E} {s : St E} {a : Act} (hE : ER P E z g N a (s.L b)) (hH : HR P E Bs F0 w0 w z g (s.H b)) : ∀ {vs : List ResultVar} {xs : List (V1 E)}, resXs E P b s vs = some xs → ∃ us, (vs.mapM (resSem a.tmps)).run P w = .ok us w ∧ All2 (R1 P E z g) xs us
  | [], xs, h => by obtain rfl := Option.some.inj h; exact ⟨[], rfl, .nil⟩
  | v :: vs, xs, h => by
    simp only [resXs] at h
    split at h
    · rename_i x l hx hl
      obtain rfl := Option.some.inj h
      obtain ⟨u, h1, h2⟩ := resSV_ok hE hH hx
      obtain ⟨us, h3, h4⟩ := resXs_ok hE hH hl
      refine ⟨u :: us, ?_, .cons h2 h4⟩
      rw [List.mapM_cons, Sem.run_bind, h1]
      simp only [Sem.run_pure, Result.andThen_ok, Sem.run_bind, h3]
    · cases h
theorem tuple_out {fn : Func} {a : Act} {rs : List ResultVar} {us : List Value} (hfn : fn.results.toList = rs) (h : (rs.mapM (resSem a.tmps)).run P w = .ok us w) : (results fn a.tmps).run P w = .ok (tupleOf us) w := by
  have hfn' : fn.results = rs.toArray := by rw [← hfn, Array.toArray_toList]
  rw [results_eq, hfn', List.mapM_toArray, Sem.run_bind]
  have : ((Functor.map List.toArray (rs.mapM (resSem a.tmps))).run P w) = .ok us.toArray w := by
    rw [map_eq_pure_bind, Sem.run_bind, h]; rfl
  rw [this]
  simp only [Result.andThen_ok, Sem.run_pure]
  congr 1
  match us with
  | [] => rfl
  | [v] => rfl
  | v :: u :: r => simp [tupleOf]
theorem takeR_ok (hH : HR P E Bs F0 w0 w z g H) {I : List Nat} : ∀ {rs : Rs} {xs : List (V1 E)} {q : HL E.S rs.ts × List Nat} {us : List Value} {n : Nat}, takeR E H rs xs = some q → (∀ j id, q.2[j]? = some id → I[n + j]? = some id) → All2 (R1 P E z g) xs us →
    (∃ svr, resV E rs q.1 n = some svr ∧ All2 (R1 P E z (gOf g I)) svr us) ∧ (∀ i o, (i, o) ∈ resO E rs q.1 n → ∃ id o1 o2, I[i]? = some id ∧ H id = some o1 ∧ o = some o2 ∧ Cor E H I o1 o2) ∧ q.2.length = cntR E rs
  | [], [], q, us, n, h, _, hv => by
    cases hv
    obtain rfl := Option.some.inj h
    exact ⟨⟨[], rfl, .nil⟩, (fun i o hm => nomatch hm), rfl⟩
  | [], _ :: _, q, us, n, h, _, _ => by simp [takeR] at h
  | (t, m) :: rs, [], q, us, n, h, _, _ => by simp [takeR] at h
  | (t, m) :: rs, x :: xs, q, us, n, h, hI, hv => by
    simp only [takeR] at h
    split at h
    · rename_i d q' hf hd hq
      obtain rfl := Option.some.inj h
      obtain ⟨hI1, hI2⟩ := mem_off hI
      cases hv with
      | @cons _ u _ us' hx hr =>
        obtain ⟨e7, e8⟩ := ownO_cor (I := I) (n := n) hd hI1
        obtain ⟨⟨svr, e1, e2⟩, e3, e4⟩ := takeR_ok hH (n := n + d.2.length) hq hI2 hr
        rw [e8] at e1 e3
        have hcs : ∀ vs, All2 (RC P E z g) x.cs vs → _ := fun vs hvs => takeM_val hH hd hI1 hvs
        obtain ⟨y, e5, e6⟩ := asV_ok (z' := z) (g' := gOf g I) (l := ownC E m (E.flat t) d.1 n) hf (by
          have : ∃ vs, All2 (RC P E z g) x.cs vs := by
            cases x with
            | one c => exact ⟨[u], .cons hx .nil⟩
            | agg l => obtain ⟨vs, _, h⟩ := hx; exact ⟨vs, h⟩
          obtain ⟨vs, hvs⟩ := this
          rw [(hcs vs hvs).2.1, (hcs vs hvs).2.2]) hx fun vs hvs => (hcs vs hvs).1
        refine ⟨⟨y :: svr, by simp only [resV, e1, E.fl_ufl, e5], .cons e6 e2⟩, fun i o ho => ?_, by simp only [List.length_append, e8, e4]; rfl⟩
        simp only [resO, List.mem_append, E.fl_ufl] at ho
        rcases ho with ho | ho
        · exact e7 i o ho
        · exact e3 i o ho
    · cases h
theorem HR.leave (hH : HR P E Bs F0 w0 w z g H) {I : List Nat} {l : Chs E} (hn : ∀ i j o p id, (i, o) ∈ l → (j, p) ∈ l → I[i]? = some id → I[j]? = some id → i = j) (hl : ∀ i o, (i, o) ∈ l → ∃ id o1 o2, I[i]? = some id ∧ H id = some o1 ∧ o = some o2 ∧ Cor E H I o1 o2) :
    HR P E Bs F0 w0 w z (gOf g I) (upH (fun _ => none) l) := by
  have key : ∀ i o, upH (fun _ => none) l i = some o → ∃ id o1, I[i]? = some id ∧ H id = some o1 ∧ ObjR P E z (gOf g I) w i o ∧ ∀ k, fpO (gOf g I) i o k ↔ fpO g id o1 k := fun i o h => by
    obtain ⟨id, o1, o2, h1, h2, h3, h4⟩ := hl i _ (upH_mem h)
    obtain rfl := Option.some.inj h3
    obtain ⟨h5, h6⟩ := h4.obj hH h1 (hH.hold _ _ h2)
    exact ⟨id, o1, h1, h2, h5, h6⟩
  refine ⟨hH.chg, fun i o h => ?_, fun i o k h hk => ?_, fun i j o p k hij h h' hk hk' => ?_, hH.fz, hH.fz0, fun i o k h hk hz => ?_⟩
  · obtain ⟨_, _, _, _, h5, _⟩ := key i o h; exact h5
  · obtain ⟨id, o1, _, h2, _, h6⟩ := key i o h
    exact hH.own id o1 k h2 ((h6 k).1 hk)
  · obtain ⟨id, o1, h1, h2, _, h6⟩ := key i o h
    obtain ⟨id', o1', h1', h2', _, h6'⟩ := key j p h'
    refine hH.apart id id' o1 o1' k (fun e => ?_) h2 h2' ((h6 k).1 hk) ((h6' k).1 hk')
    subst e
    exact hij (hn i j _ _ _ (upH_mem h) (upH_mem h') h1 h1')
  · obtain ⟨id, o1, h1, h2, _, h6⟩ := key i o h
    exact hH.fza id o1 k h2 ((h6 k).1 hk) hz
end
end Rt
end Go
namespace Go
namespace Rt
open Go.RowKit
section
variable {P : Program} {E : TE} {H : Nat → Option (Obj E)}
theorem backM_ok {m : Mk} {I : List Nat} : ∀ {ts : List Ty} {h h' : HL E.S ts} {n : Nat}, backM E H m ts h n = some h' → ∀ i o, (i, o) ∈ ownO E m ts h' n → ∃ o1 o2, H i = some o1 ∧ o = some o2 ∧ Cor E H I o1 o2 := by
  induction m with
  | nil =>
    intro ts h h' n _ i o hm
    cases ts <;> simp [ownO] at hm
  | cons a m ih =>
    intro ts h h' n hb i o hm
    cases ts with
    | nil => cases a <;> simp [ownO] at hm
    | cons t ts =>
      cases a with
      | none =>
        simp only [backM] at hb
        cases hq : backM E H m ts h.2 n with
        | none => rw [hq] at hb; cases hb
        | some q =>
          rw [hq] at hb
          obtain rfl := Option.some.inj hb
          simp only [ownO] at hm
          exact ih hq i o hm
      | some e =>
        cases t with
        | sl t =>
          simp only [backM] at hb
          cases hn : H n with
          | none => rw [hn] at hb; cases hb
          | some p =>
            cases p with
            | row e' t' xs foc =>
              rw [hn] at hb
              simp only at hb
              split at hb
              · rename_i ht
                subst ht
                cases he : Nat.beq e e' with
                | false => rw [he] at hb; cases hb
                | true =>
                  cases hq : backM E H m ts h.2 (n + 1) with
                  | none => rw [he, hq] at hb; cases hb
                  | some q =>
                    rw [he, hq] at hb
                    obtain rfl := Option.some.inj hb
                    obtain rfl := Nat.eq_of_beq_eq_true he
                    simp only [ownO, List.mem_cons] at hm
                    rcases hm with hm | hm
                    · injection hm with e1 e2
                      subst e1; subst e2
                      exact ⟨_, _, hn, rfl, rfl⟩
                    · exact ih hq i o hm
              · cases hb
            | _ => rw [hn] at hb; cases hb
        | _ => simp [ownO] at hm
theorem backH_ok {I : List Nat} : ∀ {ps : List Pm} {a : PA E ps} {bh : HL E.S (backs ps) × List Nat} {n k : Nat}, backH E H ps a n = some bh → (∀ i, i < n + cntA E ps → n ≤ i → I[i]? = some i) → (∀ j id, bh.2[j]? = some id → I[k + j]? = some id) →
    (∀ i o, (i, o) ∈ argsB E ps (putB E ps a bh.1) n k → ∃ id o1 o2, I[i]? = some id ∧ H id = some o1 ∧ o = some o2 ∧ Cor E H I o1 o2) ∧ bh.2.length = cntM E ps := by
  intro ps
  induction ps with
  | nil =>
    intro a bh n k hb _ _
    obtain rfl := Option.some.inj hb
    exact ⟨(fun i o hm => nomatch hm), rfl⟩
  | cons p ps ih =>
    intro a bh n k hb hI hk
    cases p with
    | d t => exact ih hb hI hk
    | p t => exact ih hb hI hk
    | g t m =>
      simp only [cntA] at hI
      exact ih hb (fun i h1 h2 => hI i (by omega) (by omega)) hk
    | f1 x r => exact ih hb hI hk
    | f2 x y r => exact ih hb hI hk
    | l t m =>
      simp only [cntA] at hI
      simp only [backH] at hb
      cases h1 : backM E H m (E.flat t) (E.fl t a.1) n with
      | none => rw [h1] at hb; cases hb
      | some h =>
        cases h2 : backH E H ps a.2 (n + cntO m (E.flat t)) with
        | none => rw [h1, h2] at hb; cases hb
        | some q =>
          rw [h1, h2] at hb
          obtain rfl := Option.some.inj hb
          obtain ⟨g1, g2⟩ := ih (k := k) h2 (fun i h1 h2 => hI i (by omega) (by omega)) hk
          refine ⟨fun i o hm => ?_, g2⟩
          have hm' : (i, o) ∈ ownO E m (E.flat t) (E.fl t (E.ufl t h)) n ++ argsB E ps (putB E ps a.2 q.1) (n + cntO m (E.flat t)) k := hm
          rw [E.fl_ufl] at hm'
          rcases List.mem_append.1 hm' with hm' | hm'
          · obtain ⟨o1, o2, h6, h7, h8⟩ := backM_ok (I := I) h1 i o hm'
            obtain ⟨_, _, _, h9, h10⟩ := ownO_plain i o hm'
            exact ⟨i, o1, o2, hI i (by omega) h9, h6, h7, h8⟩
          · exact g1 i o hm'
    | mp T kt v =>
      simp only [cntA] at hI
      simp only [backH] at hb
      cases hn : H n with
      | none => rw [hn] at hb; cases hb
      | some p =>
        cases p with
        | map T' k' v' ks vs foc =>
          cases h2 : backH E H ps a.2 (n + 1) with
          | none => rw [hn, h2] at hb; cases hb
          | some q =>
            rw [hn, h2] at hb
            simp only at hb
            split at hb
            · rename_i ht
              obtain ⟨rfl, rfl⟩ := ht
              cases hT : Nat.beq T T' with
              | false => rw [hT] at hb; cases hb
              | true =>
                rw [hT] at hb
                obtain rfl := Option.some.inj hb
                obtain rfl := Nat.eq_of_beq_eq_true hT
                obtain ⟨g1, g2⟩ := ih (k := k) h2 (fun i h1 h2 => hI i (by omega) (by omega)) hk
                refine ⟨fun i o hm => ?_, g2⟩
                have hm' : (i, o) ∈ (n, some (Obj.map T k' v' ks vs [])) :: argsB E ps (putB E ps a.2 q.1) (n + 1) k := hm
                rcases List.mem_cons.1 hm' with hm' | hm'
                · injection hm' with e1 e2
                  subst e1; subst e2
                  exact ⟨_, _, _, hI _ (by omega) (Nat.le_refl _), hn, rfl, rfl⟩
                · exact g1 i o hm'
            · cases hb
        | _ => rw [hn] at hb; cases hb
    | b T t =>
      simp only [cntA] at hI
      simp only [backH] at hb
      cases hn : H n with
      | none => rw [hn] at hb; cases hb
      | some p =>
        cases p with
        | box T' cs =>
          cases h2 : backH E H ps a.2 (n + 1) with
          | none => rw [hn, h2] at hb; cases hb
          | some q =>
            rw [hn, h2] at hb
            simp only at hb
            cases hT : Nat.beq T T' with
            | false => rw [hT] at hb; cases hb
            | true =>
              cases hd : dataL E H (E.flat t) cs with
              | none => rw [hT, hd] at hb; cases hb
              | some h =>
                rw [hT, hd] at hb
                obtain rfl := Option.some.inj hb
                obtain rfl := Nat.eq_of_beq_eq_true hT
                obtain ⟨g1, g2⟩ := ih (k := k) h2 (fun i h1 h2 => hI i (by omega) (by omega)) hk
                refine ⟨fun i o hm => ?_, g2⟩
                have hm' : (i, o) ∈ (n, some (Obj.box T (E.cells t (E.ufl t h)))) :: argsB E ps (putB E ps a.2 q.1) (n + 1) k := hm
                rcases List.mem_cons.1 hm' with hm' | hm'
                · injection hm' with e1 e2
                  subst e1; subst e2
                  exact ⟨_, _, _, hI _ (by omega) (Nat.le_refl _), hn, rfl, t, [], (h, []), 0, takeM_nil hd, by rw [ownC_nil]; unfold TE.cells; rw [E.fl_ufl], fun j id' hj => by simp at hj⟩
                · exact g1 i o hm'
        | _ => rw [hn] at hb; cases hb
    | bm T t m =>
      simp only [cntA] at hI
      simp only [backH] at hb
      cases hn : H n with
      | none => rw [hn] at hb; cases hb
      | some p =>
        cases p with
        | box T' cs =>
          cases h2 : backH E H ps a.2 (n + 1 + cntO m (E.flat t)) with
          | none => rw [hn, h2] at hb; cases hb
          | some q =>
            rw [hn, h2] at hb
            simp only at hb
            cases hT : Nat.beq T T' with
            | false => rw [hT] at hb; cases hb
            | true =>
              cases hd : takeM E H m (E.flat t) cs with
              | none => rw [hT, hd] at hb; cases hb
              | some d =>
                rw [hT, hd] at hb
                obtain rfl := Option.some.inj hb
                obtain rfl := Nat.eq_of_beq_eq_true hT
                obtain ⟨i1, i2⟩ := mem_off hk
                obtain ⟨e7, e8⟩ := ownO_cor (n := k) hd i1
                obtain ⟨g1, g2⟩ := ih (k := k + d.2.length) h2 (fun i h1 h2 => hI i (by omega) (by omega)) i2
                refine ⟨fun i o hm => ?_, by simp only [List.length_append, e8, g2, cntM]⟩
                have hm' : (i, o) ∈ (n, some (Obj.box T (ownC E m (E.flat t) (E.fl t (E.ufl t d.1)) k))) :: (ownO E m (E.flat t) (E.fl t (E.ufl t d.1)) k ++ argsB E ps (putB E ps a.2 q.1) (n + 1 + cntO m (E.flat t)) (k + cntO m (E.flat t))) := hm
                rw [E.fl_ufl] at hm'
                rw [e8] at g1
                rcases List.mem_cons.1 hm' with hm' | hm'
                · injection hm' with e1 e2
                  subst e1; subst e2
                  exact ⟨_, _, _, hI _ (by omega) (Nat.le_refl _), hn, rfl, t, m, d, k, hd, rfl, i1⟩
                · rcases List.mem_append.1 hm' with hm' | hm'
                  · exact e7 i o hm'
                  · exact g1 i o hm'
        | _ => rw [hn] at hb; cases hb
end
end Rt
end Go
namespace Go
namespace Rt
open Go.RowKit
section
variable {P : Program} {E : TE} {eqs : List (Nat × Nat)} {tab : Tab E} {z : Fz} {g : Ga} {w w0 : World} {Bs : List Nat} {N : Nat}
def EndIs (P : Program) (E : TE) (z : Fz) (g : Ga) (Bs : List Nat) (w : World) (ps : List Pm) (rs : Rs) (a : PA E ps) (rh : HL E.S rs.ts) (bh : HL E.S (backs ps)) (v : Value) (w' : World) : Prop :=
  ∃ z' g' svr, z.Le z' ∧ g.Le g' ∧ resV E rs rh (cntA E ps) = some svr ∧ RV P E z' g' (oneV E svr) v ∧ HR P E Bs z.F w w' z' g' (upH (fun _ => none) (resO E rs rh (cntA E ps) ++ argsB E ps (putB E ps a bh) 0 (cntA E ps + cntR E rs)))
theorem oneV_ok {svr : List (V1 E)} {us : List Value} (h : All2 (R1 P E z g) svr us) : RV P E z g (oneV E svr) (tupleOf us) := by
  cases h with
  | nil => exact ⟨[], rfl, .nil⟩
  | cons h1 h2 =>
    cases h2 with
    | nil => exact h1
    | cons h3 h4 => exact ⟨_, rfl, .cons h1 (.cons h3 h4)⟩
theorem argsB_mem : ∀ {ps : List Pm} {a : PA E ps} {n k i : Nat} {o : Option (Obj E)}, (i, o) ∈ argsB E ps a n k → i ∈ backI E ps n ∨ (k ≤ i ∧ i < k + cntM E ps)
  | [], _, _, _, _, _, h => by cases h
  | .l t m :: ps, a, n, k, i, o, h => by
    rcases List.mem_append.1 h with h | h
    · obtain ⟨_, _, _, h1, h2⟩ := ownO_plain i _ h
      exact .inl (List.mem_append.2 (.inl (List.mem_range'_1.2 ⟨h1, h2⟩)))
    · exact (argsB_mem (ps := ps) h).imp (fun h => List.mem_append.2 (.inr h)) id
  | .g _ _ :: ps, _, _, _, _, _, h => argsB_mem (ps := ps) h
  | .b _ _ :: ps, _, _, _, _, _, h => by
    rcases List.mem_cons.1 h with h | h
    · injection h with e; subst e; exact .inl (List.mem_cons.2 (.inl rfl))
    · exact (argsB_mem (ps := ps) h).imp (fun h => List.mem_cons.2 (.inr h)) id
  | .bm _ t m :: ps, a, n, k, i, o, h => by
    simp only [cntM]
    rcases List.mem_cons.1 h with h | h
    · injection h with e; subst e; exact .inl (List.mem_cons.2 (.inl rfl))
    · rcases List.mem_append.1 h with h | h
      · obtain ⟨_, _, _, h1, h2⟩ := ownO_plain i _ h
        exact .inr ⟨h1, by omega⟩
      · rcases argsB_mem (ps := ps) h with h | h
        · exact .inl (List.mem_cons.2 (.inr h))
        · exact .inr ⟨by omega, by omega⟩
  | .mp _ _ _ :: ps, _, _, _, _, _, h => by
    rcases List.mem_cons.1 h with h | h
    · injection h with e; subst e; exact .inl (List.mem_cons.2 (.inl rfl))
    · exact (argsB_mem (ps := ps) h).imp (fun h => List.mem_cons.2 (.inr h)) id
  | .d _ :: ps, _, _, _, _, _, h => argsB_mem (ps := ps) h
  | .p _ :: ps, _, _, _, _, _, h => argsB_mem (ps := ps) h
  | .f1 _ _ :: ps, _, _, _, _, _, h => argsB_mem (ps := ps) h
  | .f2 _ _ _ :: ps, _, _, _, _, _, h => argsB_mem (ps := ps) h
theorem backI_lt : ∀ {ps : List Pm} {n i : Nat}, i ∈ backI E ps n → i < n + cntA E ps
  | [], _, _, h => by cases h
  | .l t m :: ps, n, i, h => by
    simp only [cntA]
    rcases List.mem_append.1 h with h | h
    · have := List.mem_range'_1.1 h
      omega
    · have := backI_lt (ps := ps) h
      omega
  | .g t m :: ps, n, i, h => by
    simp only [cntA]
    have := backI_lt (ps := ps) h
    omega
  | .b _ _ :: ps, n, i, h => by
    simp only [cntA]
    rcases List.mem_cons.1 h with h | h
    · omega
    · have := backI_lt (ps := ps) h
      omega
  | .bm _ t m :: ps, n, i, h => by
    simp only [cntA]
    rcases List.mem_cons.1 h with h | h
    · omega
    · have := backI_lt (ps := ps) h
      omega
  | .mp _ _ _ :: ps, n, i, h => by
    simp only [cntA]
    rcases List.mem_cons.1 h with h | h
    · omega
    · have := backI_lt (ps := ps) h
      omega
  | .d _ :: ps, _, _, h => backI_lt (ps := ps) h
  | .p _ :: ps, _, _, h => backI_lt (ps := ps) h
  | .f1 _ _ :: ps, _, _, h => backI_lt (ps := ps) h
  | .f2 _ _ _ :: ps, _, _, h => backI_lt (ps := ps) h
theorem retF_ok {ps : List Pm} {rs : Rs} {a : PA E ps} {fn : Func} {b : Ba E} {s : St E} {act : Act} {w' : World} {y : Tp E.S (rs.ts ++ backs ps)} (hfr : Fresh g (cntA E ps))
    (hR : Rel P E Bs ⟨z, g, cntA E ps⟩ w N (s.L b) (s.H b) s.nx act w') (h : retF E P ps rs a fn.results.toList b s = some y) :
    act.defers = [] ∧ ∃ v, (results fn act.tmps).run P w' = .ok v w' ∧ EndIs P E z g Bs w ps rs a (hfst rs.ts (backs ps) (ofTp _ y)) (hsnd rs.ts (backs ps) (ofTp _ y)) v w' := by
  obtain ⟨z1, g1, hE, hH, hfz, hz1, hg1⟩ := hR
  refine ⟨hE.defers, ?_⟩
  unfold retF at h
  cases hxs : resXs E P b s fn.results.toList with
  | none => rw [hxs] at h; cases h
  | some xs0 =>
    rw [hxs] at h
    simp only at h
    obtain ⟨xs, u0, n0, g0, p1, p2, _, p4, p5, _, _⟩ := prepRs_ok rs xs0 hH hfz
    rw [p1] at h
    generalize hHu : upH (s.H b) u0 = Hu at h p4
    cases hq : takeR E (upH Hu (frzA E Hu ps rs xs)) rs xs with
    | none => rw [hq] at h; cases h
    | some q =>
      rw [hq] at h
      simp only at h
      cases hb : backH E (upH Hu (frzA E Hu ps rs xs)) ps a 0 with
      | none => rw [hb] at h; cases h
      | some bq =>
        rw [hb] at h
        obtain ⟨bh, ids⟩ := bq
        obtain ⟨hn, h⟩ := onlyIf_some h
        obtain rfl := Option.some.inj h
        simp only at hn
        rw [ofTp_toTp, hfst_hap, hsnd_hap]
        obtain ⟨us, h1, h20⟩ := resXs_ok hE hH hxs
        have h2 := p5 z1 g0 us (Ga.Le.refl g0) (h20.mono fun _ _ h => R1.le h (Fz.Le.refl z1) p2)
        obtain ⟨z2, hz2, hH2⟩ := frzA_ok p4 ps rs xs
        have hI0 : ∀ j id, (q.2 ++ ids)[j]? = some id → (List.range (cntA E ps) ++ (q.2 ++ ids))[cntA E ps + j]? = some id := fun j id hj => by
          rw [List.getElem?_append_right (by simp)]
          simpa using hj
        obtain ⟨hI1, hI3⟩ := mem_off hI0
        have hI2 : ∀ i, i < cntA E ps → (List.range (cntA E ps) ++ (q.2 ++ ids))[i]? = some i := fun i hi => by
          rw [List.getElem?_append_left (by simpa using hi)]
          simp [hi]
        obtain ⟨⟨svr, h3, h4⟩, h5, hql⟩ := takeR_ok hH2 (n := cntA E ps) hq hI1 (h2.mono fun _ _ h => R1.le h hz2 (Ga.Le.refl g0))
        rw [hql] at hI3
        obtain ⟨h6, _⟩ := backH_ok (I := List.range (cntA E ps) ++ (q.2 ++ ids)) (k := cntA E ps + cntR E rs) hb (fun i h1 _ => hI2 i (by omega)) hI3
        refine ⟨_, tuple_out rfl h1, z2, gOf g0 (List.range (cntA E ps) ++ (q.2 ++ ids)), svr, hz1.trans hz2, fun i l hl => ?_, h3, oneV_ok h4, hH2.leave (fun i j o p id hi hj e1 e2 => ?_) fun i o hm => ?_⟩
        · have hi : i < cntA E ps := by
            rcases Nat.lt_or_ge i (cntA E ps) with h9 | h9
            · exact h9
            · rw [hfr i h9] at hl; cases hl
          unfold gOf
          rw [hI2 i hi]
          exact p2 i l (hg1 i l hl)
        · have far : ∀ i, cntA E ps ≤ i → (List.range (cntA E ps) ++ (q.2 ++ ids))[i]? = some id → ∃ p, (backI E ps 0 ++ (q.2 ++ ids))[p]? = some id ∧ ((p < (backI E ps 0).length ∧ i = id ∧ i < cntA E ps) ∨ (cntA E ps ≤ i ∧ p = (backI E ps 0).length + (i - cntA E ps))) := fun i k1 e => by
            rw [List.getElem?_append_right (by simpa using k1)] at e
            refine ⟨(backI E ps 0).length + (i - cntA E ps), ?_, .inr ⟨k1, rfl⟩⟩
            rw [List.getElem?_append_right (by omega)]
            simpa using e
          have key : ∀ i o, (i, o) ∈ resO E rs q.1 (cntA E ps) ++ argsB E ps (putB E ps a bh) 0 (cntA E ps + cntR E rs) → (List.range (cntA E ps) ++ (q.2 ++ ids))[i]? = some id → ∃ p, (backI E ps 0 ++ (q.2 ++ ids))[p]? = some id ∧ ((p < (backI E ps 0).length ∧ i = id ∧ i < cntA E ps) ∨ (cntA E ps ≤ i ∧ p = (backI E ps 0).length + (i - cntA E ps))) := fun i o hm e => by
            rcases List.mem_append.1 hm with hm | hm
            · obtain ⟨_, _, _, k1, _⟩ := resO_plain i o hm
              exact far i k1 e
            · rcases argsB_mem hm with hm | hm
              · have k2 := backI_lt hm
                rw [hI2 i (by omega)] at e
                obtain rfl := Option.some.inj e
                obtain ⟨p, hp⟩ := List.mem_iff_getElem?.1 hm
                have hpl : p < (backI E ps 0).length := (List.getElem?_eq_some_iff.1 hp).1
                exact ⟨p, by rw [List.getElem?_append_left hpl]; exact hp, .inl ⟨hpl, rfl, by omega⟩⟩
              · exact far i (by omega) e
          obtain ⟨p1, k1, k2⟩ := key i o hi e1
          obtain ⟨p2, k3, k4⟩ := key j p hj e2
          have hp := nodup_get hn k1 k3
          rcases k2 with k2 | k2 <;> rcases k4 with k4 | k4 <;> omega
        · rcases List.mem_append.1 hm with hm | hm
          · exact h5 i o hm
          · exact h6 i o hm
theorem slots_in {svs : List (V1 E)} {vs : List Value} (h : All2 (R1 P E z g) svs vs) : ∀ (i t : Nat) (o : Option (SV E)), aget t (slotsOf i svs) = some o → ∃ x v, o = some (.v x) ∧ look t (argEnv i vs) = some v ∧ R1 P E z g x v := by
  induction h with
  | nil => intro i t o ho; cases ho
  | @cons x v la bs h1 _ ih =>
    intro i t o ho
    simp only [slotsOf, aget] at ho
    simp only [argEnv, look]
    cases hb : Nat.beq t i with
    | true =>
      rw [hb] at ho
      exact ⟨x, v, (Option.some.inj ho).symm, rfl, h1⟩
    | false =>
      rw [hb] at ho
      exact ih (i + 1) t o ho
theorem evFun_ok (heq : ∀ p ∈ eqs, EqFact P E p.1 p.2) (ht : tab.OK P E) {f : FuncId} {fn : Func} (hf : P.funcs[f]? = some fn) {ps : List Pm} {rs : Rs} {pl : Pl} {a : PA E ps} {y : Tp E.S (rs.ts ++ backs ps)} (h : evFun P E eqs tab fn ps rs pl a = some y) :
    CallOK P E f ps rs true a (hfst rs.ts (backs ps) (ofTp _ y)) (hsnd rs.ts (backs ps) (ofTp _ y)) := by
  intro w z g Bs svs vs hav hH hfr hv
  unfold evFun at h
  cases hb : fn.body with
  | none => rw [hb] at h; cases h
  | some c =>
    rw [hb, hav] at h
    simp only at h
    obtain ⟨hle, h⟩ := onlyIf_some h
    refine Ret.mono (R := fun v w' => EndIs P E z g Bs w ps rs a (hfst rs.ts (backs ps) (ofTp _ y)) (hsnd rs.ts (backs ps) (ofTp _ y)) v w') ?_ fun v w' ⟨z', g', svr, h1, h2, h3, h4, h5⟩ => ⟨z', g', svr, h1, (fun e => nomatch e), h2, h3, h4, h5⟩
    refine enter hf hb rfl (by rw [List.size_toArray, ← hv.len]; exact hle) fun act hE => ?_
    refine evCode_ok (Bs := Bs) (F0 := ⟨z, g, cntA E ps⟩) (w0 := w) (Qr := fun y' a' w' => a'.defers = [] ∧ ∃ v, (results fn a'.tmps).run P w' = .ok v w' ∧ EndIs P E z g Bs w ps rs a (hfst rs.ts (backs ps) (ofTp _ y')) (hsnd rs.ts (backs ps) (ofTp _ y')) v w') heq ht
      (fun b s a' w' y' hR hy => retF_ok hfr hR hy) c pl _ _ _ _ _ y act w _ hfr h ?_ ?_ ?_
    · refine ⟨z, g, ⟨hE.size, hE.defers, fun t u hu => ?_⟩, hH, hfr, Fz.Le.refl z, Ga.Le.refl g⟩
      unfold St.L at hu
      simp only at hu
      cases ha : aget t (slotsOf 0 svs) with
      | none => rw [ha] at hu; cases hu
      | some o =>
        rw [ha] at hu
        obtain ⟨x, v, h1, h2, h3⟩ := slots_in hv 0 t o ha
        subst h1
        obtain rfl := Option.some.inj hu
        exact ⟨v, hE.get t v (by simpa using h2), h3⟩
    · intro ex s' a' w' he hR'
      cases ex with
      | some i => cases he
      | none =>
        obtain ⟨h1, v, h2, h3⟩ := retF_ok hfr hR' he
        exact ⟨h1, _, h2, v, rfl, h3⟩
    · intro y' a' w' he hq
      obtain rfl := Option.some.inj he
      obtain ⟨h1, v, h2, h3⟩ := hq
      exact ⟨h1, _, h2, v, rfl, h3⟩
end
end Rt
end Go
namespace Go
namespace Rt
open Go.RowKit
section
variable {P : Program} {E : TE} {eqs : List (Nat × Nat)} {tab : Tab E}
theorem CallOK.flat {f : FuncId} {ps : List Pm} {rs : Rs} {ali : Bool} {a : PA E ps} {rh : HL E.S rs.ts} {bh : HL E.S (backs ps)} (hr : flatRs E rs = true) (hp : flatPs E ps = true) (h : CallOK P E f ps rs ali a rh bh) : CallOK P E f ps rs false a rh bh := by
  intro w z g Bs svs vs hav hH hfr hv
  refine Ret.mono (h w z g Bs svs vs hav hH hfr hv) fun v w' ⟨z', g', svr, h1, _, h3, h4, h5, h6⟩ => ⟨z, g', svr, Fz.Le.refl z, (fun _ => rfl), h3, h4, ?_, ?_⟩
  · exact oneV_move (z := z') (g := g') rfl h5 fun vs hvs => resV_move h4 h4 hvs (fun i l _ hl => hl) (.inr hr)
  · have key : ∀ i o, upH (fun _ => none) (resO E rs rh (cntA E ps) ++ argsB E ps (putB E ps a bh) 0 (cntA E ps + cntR E rs)) i = some o → Plain E (fun _ => True) o ∧ FlatObj E o := fun i o e => by
      rcases List.mem_append.1 (upH_mem e) with hm | hm
      · obtain ⟨p, e1, e2⟩ := resO_flat hr i _ hm
        obtain ⟨p', e3, e4, _⟩ := resO_plain i _ hm
        obtain rfl := Option.some.inj e1
        obtain rfl := Option.some.inj e3
        exact ⟨e4 _, e2⟩
      · obtain ⟨p, e1, e2⟩ := argsB_flat hp i _ hm
        obtain ⟨p', e3, e4, _⟩ := argsB_plain i _ hm
        obtain rfl := Option.some.inj e1
        obtain rfl := Option.some.inj e3
        refine ⟨?_, e2⟩
        cases o with
        | box T cs =>
          intro c hc
          have := e4 c hc
          cases c <;> first | trivial | exact this.elim
        | _ => exact e4
    refine ⟨h6.chg, fun i o e => ?_, h6.own, h6.apart, fun k hk => ?_, fun k hk => .inl hk, fun i o k e hk hz => h6.fza i o k e hk (h1 k hz).1⟩
    · obtain ⟨k1, k2⟩ := key i o e
      exact (ObjR.move k1 (fun _ _ _ hl => hl) (.inr k2) rfl (h6.hold i o e)).1
    · obtain ⟨k1, k2⟩ := h1 k hk
      have k3 := h6.fz k k1
      exact ⟨k3.1, k3.2.trans k2⟩
def conOf (E : TE) (ps : List Pm) (rs : Rs) (ali : Bool) (f : PA E ps → Option (Tp E.S (rs.ts ++ backs ps))) : Con E :=
  ⟨ps, rs, ali, fun _ a k => (f a).bind fun y => k (hfst rs.ts (backs ps) (ofTp _ y)) (hsnd rs.ts (backs ps) (ofTp _ y)), none⟩
theorem conOf_ok (heq : ∀ p ∈ eqs, EqFact P E p.1 p.2) (ht : tab.OK P E) {fid : FuncId} {fn : Func} (hf : P.funcs[fid]? = some fn) {ps : List Pm} {rs : Rs} {ali : Bool} (hali : (ali || (flatRs E rs && flatPs E ps)) = true) {pl : Pl} {f : PA E ps → Option (Tp E.S (rs.ts ++ backs ps))}
    (h : ∀ a, f a = evFun P E eqs tab fn ps rs pl a) : (conOf E ps rs ali f).OK P E fid := by
  intro R a k r hr
  obtain ⟨y, h1, h2⟩ := bind_some (show (f a).bind (fun y => k (hfst rs.ts (backs ps) (ofTp _ y)) (hsnd rs.ts (backs ps) (ofTp _ y))) = some r from hr)
  rw [h a] at h1
  have h3 := evFun_ok heq ht hf h1
  refine ⟨_, _, h2, ?_⟩
  cases ali with
  | true => exact h3
  | false =>
    simp only [Bool.false_or, Bool.and_eq_true] at hali
    exact h3.flat hali.1 hali.2
end
end Rt
end Go
namespace Go
namespace Rt
open Go.RowKit
section
variable {P : Program} {E : TE} {eqs : List (Nat × Nat)} {tab : Tab E}
end
end Rt
end Go
namespace Go
namespace Rt
open Go.RowKit
section
variable {P : Program} {E : TE}
theorem argsO_own : ∀ {ps : List Pm} {a : PA E ps} {n : Nat}, lends ps = false → argsO E ps a n = []
  | [], _, _, _ => rfl
  | .l _ _ :: _, _, _, h => by cases h
  | .g _ _ :: _, _, _, h => by cases h
  | .mp _ _ _ :: _, _, _, h => by cases h
  | .b _ _ :: _, _, _, h => by cases h
  | .bm _ _ _ :: _, _, _, h => by cases h
  | .d _ :: ps, a, n, h => argsO_own (ps := ps) (a := a.2) (n := n) h
  | .p _ :: ps, a, n, h => argsO_own (ps := ps) (a := a.2) (n := n) h
  | .f1 _ _ :: ps, a, n, h => argsO_own (ps := ps) (a := a.2) (n := n) h
  | .f2 _ _ _ :: ps, a, n, h => argsO_own (ps := ps) (a := a.2) (n := n) h
theorem argsB_own : ∀ {ps : List Pm} {a : PA E ps} {n k : Nat}, lends ps = false → argsB E ps a n k = []
  | [], _, _, _, _ => rfl
  | .l _ _ :: _, _, _, _, h => by cases h
  | .g _ _ :: _, _, _, _, h => by cases h
  | .mp _ _ _ :: _, _, _, _, h => by cases h
  | .b _ _ :: _, _, _, _, h => by cases h
  | .bm _ _ _ :: _, _, _, _, h => by cases h
  | .d _ :: ps, a, n, k, h => argsB_own (ps := ps) (a := a.2) (n := n) (k := k) h
  | .p _ :: ps, a, n, k, h => argsB_own (ps := ps) (a := a.2) (n := n) (k := k) h
  | .f1 _ _ :: ps, a, n, k, h => argsB_own (ps := ps) (a := a.2) (n := n) (k := k) h
  | .f2 _ _ _ :: ps, a, n, k, h => argsB_own (ps := ps) (a := a.2) (n := n) (k := k) h
theorem callOK_flat {f : FuncId} {ps : List Pm} {r : Ty} {a : PA E ps} {y : Den E.S r} {bh : HL E.S (backs ps)} (hr : r.flatB = true) (hl : lends ps = false) {svs0 : List (V1 E)} {us : List Value} {v : Value} (ha : argsV E ps a 0 = some svs0) (he : encVs svs0 = some us) (hv : (V1.one (.dt r y) : V1 E).enc = some v)
    (h : ∀ w, Ret P f us.toArray w fun u w' => u = v ∧ Ext w w') : CallOK P E f ps [(r, [])] false a (y, ()) bh := by
  intro w z g Bs svs vs hav hH hfr hvs
  rw [ha] at hav
  obtain rfl := Option.some.inj hav
  obtain rfl := (encVs_ok he).1 hvs
  refine (h w).mono fun u w' ⟨hu, hx⟩ => ?_
  subst hu
  refine ⟨z, g, [.one (.dt r y)], Fz.Le.refl z, fun _ => rfl, Ga.Le.refl g, ?_, (show R1 P E z g (.one (.dt r y)) u from (V1.enc_ok hv).2 rfl), ?_⟩
  · cases r with
    | int k => rfl
    | bool => rfl
    | str => rfl
    | _ => cases hr
  · have h1 := hH.ext hx
    rw [argsO_own hl] at h1
    rw [argsB_own hl]
    have h2 : resO E [(r, ([] : Mk))] (y, ()) (cntA E ps) = [] := by
      cases r with
      | int k => rfl
      | bool => rfl
      | str => rfl
      | _ => cases hr
    rw [h2]
    exact h1
def tnil : Tab E := fun _ => none
theorem tnil_ok : (tnil : Tab E).OK P E := fun _ _ h => by cases h
def tb (f : Nat) (C : Con E) (r : Tab E) : Tab E := fun n => match Nat.beq n f with
  | true => some C
  | false => r n
theorem tb_ok {f : Nat} {C : Con E} {r : Tab E} (h : Con.OK P E f C ∧ bodyB P f = true) (hr : r.OK P E) (hI : C.I = none := by rfl) : (tb f C r).OK P E := fun n D hD => by
  unfold tb at hD
  split at hD
  · rename_i hb
    obtain rfl := Nat.eq_of_beq_eq_true hb
    obtain rfl := Option.some.inj hD
    exact ⟨h.1, h.2, fun I e => by rw [hI] at e; cases e⟩
  · exact hr n D hD
end
end Rt
end Go
namespace Go
namespace Rt
open Go.RowKit Go.ChangeShapes Go.WideShapes Go.Deep
def InK (k : IntKind) (n : Int) : Prop := k.min ≤ n ∧ n ≤ k.max
abbrev I64 (n : Int) : Prop := -9223372036854775808 ≤ n ∧ n ≤ 9223372036854775807
section
variable {H : Type} {enc : TypeId × Value → H} {P : Program} {w : World} {base : Nat} {spare : Nat → Bool} {held : Bool}
end
end Rt
end Go
namespace Go
namespace Rt
open Go.RowKit Go.ChangeShapes Go.WideShapes Go.Deep
def FitL {S : Nat → Type} (f : (t : Ty) → Den S t → Prop) : (ts : List Ty) → HL S ts → Prop
  | [], _ => True
  | t :: ts, h => f t h.1 ∧ FitL f ts h.2
def FitC (E : TE) : Nat → (t : Ty) → Den E.S t → Prop
  | _, .int k, x => InK k x
  | _, .bool, _ => True
  | _, .str, s => s.length ≤ 9223372036854775807
  | 0, .sl _, xs => xs.length ≤ 9223372036854775807
  | k + 1, .sl e, xs => xs.length ≤ 9223372036854775807 ∧ ∀ x ∈ xs, FitL (FitC E k) (E.flat e) (E.fl e x)
  | _, .st _, _ => True
def Fit (E : TE) (t : Ty) (x : Den E.S t) : Prop := ∀ k, FitL (FitC E k) (E.flat t) (E.fl t x)
theorem FitL.app {S : Nat → Type} {f : (t : Ty) → Den S t → Prop} : ∀ {ts us : List Ty} {h : HL S ts} {k : HL S us}, FitL f ts h → FitL f us k → FitL f (ts ++ us) (hap h k)
  | [], _, _, _, _, h2 => h2
  | _ :: _, _, _, _, h1, h2 => ⟨h1.1, h1.2.app h2⟩
section
variable {E : TE} {z : Fz}
theorem RD.app : ∀ {ts us : List Ty} {h : HL E.S ts} {k : HL E.S us} {vs ws : List Value}, RD E z ts h vs → RD E z us k ws → RD E z (ts ++ us) (hap h k) (vs ++ ws)
  | [], _, _, _, _, _, h1, h2 => by rw [h1.nil_inv]; exact h2
  | t :: ts, us, h, k, vs, ws, h1, h2 => by
    obtain ⟨v, vs', rfl, h3, h4⟩ := h1.uncons
    exact RD.cons h3 (h4.app h2)
def prefB (ts us : List Ty) : Bool := decide (us.take ts.length = ts)
theorem prefB_eq {ts us : List Ty} (h : prefB ts us = true) : us = ts ++ us.drop ts.length := by
  unfold prefB at h
  have h1 := of_decide_eq_true h
  have h2 := List.take_append_drop ts.length us
  rw [h1] at h2
  exact h2.symm
def fieldsTy (P : Program) (E : TE) (f : TypeId → Ty → Bool) (total : Nat) : Nat → List Field → List Ty → Bool
  | off, [], ts => Nat.beq off total && ts.isEmpty
  | off, g :: gs, ts => match E.ty g.type with
    | some t => Nat.beq g.offset off && (f g.type t && (prefB (E.flat t) ts && fieldsTy P E f total (off + P.cellsOf g.type) gs (ts.drop (E.flat t).length)))
    | none => false
def arrTy (E : TE) (t : Ty) : Nat → List Ty → Bool
  | 0, ts => ts.isEmpty
  | n + 1, ts => prefB (E.flat t) ts && arrTy E t n (ts.drop (E.flat t).length)
def tyOK (P : Program) (E : TE) : Nat → TypeId → Ty → Bool
  | 0, _, _ => false
  | n + 1, T, t => match P.underlying T, t with
    | some (.int k), .int k' => decide (k = k')
    | some .bool, .bool => true
    | some .string, .str => true
    | some (.slice e), .sl t => tyOK P E n e t && Nat.beq (P.cellsOf e) (E.size t)
    | some (.struct fs), .st m => fieldsTy P E (tyOK P E n) (P.cellsOf T) 0 fs.toList (E.cs m)
    | some (.array c e), .st m => match E.ty e with
      | some t => tyOK P E n e t && (Nat.beq (c * P.cellsOf e) (P.cellsOf T) && arrTy E t c (E.cs m))
      | none => false
    | _, _ => false
end
section
variable {H : Type} {enc : TypeId × Value → H} {P : Program} {E : TE} {w : World} {spare : Nat → Bool} {held : Bool}
def allZ (w : World) : Fz := ⟨fun k => k < w.heap.size, w⟩
def Opens (E : TE) (w : World) (ts : List Ty) (cs : List Value) : Prop := ∃ h : HL E.S ts, RD E (allZ w) ts h cs ∧ ∀ k, FitL (FitC E k) ts h
theorem Opens.app {ts us : List Ty} {cs ds : List Value} (h1 : Opens E w ts cs) (h2 : Opens E w us ds) : Opens E w (ts ++ us) (cs ++ ds) := by
  obtain ⟨h, h3, h4⟩ := h1
  obtain ⟨k, h5, h6⟩ := h2
  exact ⟨hap h k, h3.app h5, fun n => (h4 n).app (h6 n)⟩
theorem fields_opens {f : TypeId → Ty → Bool} {total m : Nat} (hf : ∀ T t cs (x : DataW H × List MemPlace), f T t = true → DataW.trod enc P w 0 spare held m T cs = some x → Opens E w (E.flat t) cs) {cs : List Value} (hcs : cs.length = total) :
    ∀ {gs : List Field} {off : Nat} {ts : List Ty} {xs : List (DataW H × List MemPlace)}, fieldsTy P E f total off gs ts = true → xs.length = gs.length →
      (∀ (i : Nat) (g : Field), gs[i]? = some g → DataW.trod enc P w 0 spare held m g.type ((cs.drop g.offset).take (P.cellsOf g.type)) = xs[i]?) → Opens E w ts (cs.drop off)
  | [], off, ts, xs, h, _, _ => by
    simp only [fieldsTy, Bool.and_eq_true] at h
    obtain rfl : off = total := Nat.eq_of_beq_eq_true h.1
    obtain rfl : ts = [] := by simpa using h.2
    rw [List.drop_eq_nil_of_le (by omega)]
    exact ⟨(), .nil, fun _ => trivial⟩
  | g :: gs, off, ts, xs, h, hl, ht => by
    simp only [fieldsTy] at h
    split at h
    · rename_i t hty
      simp only [Bool.and_eq_true] at h
      obtain ⟨h1, h2, h3, h4⟩ := h
      obtain rfl : g.offset = off := Nat.eq_of_beq_eq_true h1
      cases xs with
      | nil => simp at hl
      | cons x xs =>
        have h0 := ht 0 g rfl
        simp only [List.getElem?_cons_zero] at h0
        have ha := hf _ _ _ _ h2 h0
        have hb := fields_opens hf hcs h4 (by simpa using hl) (fun i g' hg => by simpa using ht (i + 1) g' (by simpa using hg))
        have := ha.app hb
        rw [← prefB_eq h3, ← List.drop_drop, List.take_append_drop] at this
        exact this
    · cases h
theorem arr_opens {c m e n : Nat} {t : Ty} {cs : List Value} (hcs : cs.length = n * c) (hf : ∀ i, i < n → Opens E w (E.flat t) ((cs.drop (i * c)).take c)) : ∀ {k : Nat} {ts : List Ty}, k ≤ n → arrTy E t k ts = true → Opens E w ts (cs.drop ((n - k) * c))
  | 0, ts, _, h => by
    obtain rfl : ts = [] := by simpa [arrTy] using h
    rw [List.drop_eq_nil_of_le (by rw [hcs, Nat.sub_zero]; exact Nat.le_refl _)]
    exact ⟨(), .nil, fun _ => trivial⟩
  | k + 1, ts, hk, h => by
    simp only [arrTy, Bool.and_eq_true] at h
    have ha := hf (n - (k + 1)) (by omega)
    have hb := arr_opens (m := m) (e := e) hcs hf (k := k) (by omega) h.2
    have := ha.app hb
    rw [← prefB_eq h.1] at this
    have e1 : (n - k) * c = (n - (k + 1)) * c + c := by
      rw [show n - k = n - (k + 1) + 1 by omega, Nat.succ_mul]
    rw [e1, ← List.drop_drop, List.take_append_drop] at this
    exact this
theorem trod_opens : ∀ {n fuel : Nat} {T : TypeId} {t : Ty} {cs : List Value} {x : DataW H × List MemPlace}, tyOK P E n T t = true → DataW.trod enc P w 0 spare held fuel T cs = some x → Opens E w (E.flat t) cs
  | 0, _, _, _, _, _, h, _ => by cases h
  | n + 1, fuel, T, t, cs, x, h, hd => by
    simp only [tyOK] at h
    split at h
    · rename_i k k' hu
      obtain rfl := of_decide_eq_true h
      obtain ⟨m, rfl, rfl, hw⟩ := DataW.trod_int hu hd
      exact ⟨(m, ()), .int .nil, fun _ => ⟨by simpa [Lit.wf, InK, FitC] using hw, trivial⟩⟩
    · rename_i hu
      obtain ⟨b, rfl, rfl⟩ := DataW.trod_bool hu hd
      exact ⟨(b, ()), .bool .nil, fun k => ⟨by cases k <;> trivial, trivial⟩⟩
    · rename_i hu
      obtain ⟨s, rfl, rfl, hs⟩ := DataW.trod_string hu hd
      refine ⟨(s.data.toList, ()), ?_, fun k => ⟨?_, trivial⟩⟩
      · have : Value.string s = S s.data.toList := by simp [S]
        rw [this]; exact .str .nil
      · have e : FitC E k .str s.data.toList = (s.data.toList.length ≤ 9223372036854775807) := by cases k <;> rfl
        show FitC E k .str s.data.toList
        rw [e]
        have : s.data.toList.length = s.size := by rw [Array.length_toList]; rfl
        rw [this]; exact hs
    · rename_i e t hu
      simp only [Bool.and_eq_true] at h
      have hC : P.cellsOf e = E.size t := Nat.eq_of_beq_eq_true h.2
      rcases open_slice hu hd with ⟨rfl, _⟩ | ⟨a, len, cap, m, q, D, Pl, rfl, _, hl, hm, hmm, hx, hi⟩
      · exact ⟨([], ()), .sl (rows := []) (SlF.nil _ _ _ _) (Nat.le_refl _) (fun i x r h => by simp at h) .nil, fun k => ⟨by cases k <;> simp [FitC], trivial⟩⟩
      · have hlm : len ≤ m := by rw [hmm]; split <;> omega
        have hc : 0 < E.size t := E.size_pos t
        let row : Nat → List Value := fun i => (w.cells? 0 (a.add (i * E.size t)) (E.size t)).getD []
        have hrow : ∀ i, i < len → w.cells? 0 (a.add (i * E.size t)) (E.size t) = some (row i) ∧ Opens E w (E.flat t) (row i) := fun i hi' => by
          obtain ⟨cs', h1, h2⟩ := hi i (by omega)
          rw [hC] at h1
          simp only [row, h1, Option.getD_some]
          exact ⟨trivial, trod_opens h.1 h2⟩
        have hxs : ∀ j, j ≤ len → ∃ xs : List (Den E.S t), xs.length = j ∧ ∀ i x, xs[i]? = some x → RD E (allZ w) (E.flat t) (E.fl t x) (row i) ∧ ∀ k, FitL (FitC E k) (E.flat t) (E.fl t x) := by
          intro j
          induction j with
          | zero => intro _; exact ⟨[], rfl, fun i x h => by simp at h⟩
          | succ j ih =>
            intro hj
            obtain ⟨xs, h1, h2⟩ := ih (by omega)
            obtain ⟨hh, h3, h4⟩ := (hrow j (by omega)).2
            refine ⟨xs ++ [E.ufl t hh], by simp [h1], fun i x hx => ?_⟩
            rw [List.getElem?_append] at hx
            split at hx
            · exact h2 i x hx
            · rename_i hge
              have hij : i = j := by
                have : i - xs.length < 1 := by
                  rcases Nat.lt_or_ge (i - xs.length) 1 with h5 | h5
                  · exact h5
                  · rw [List.getElem?_eq_none (by simpa using h5)] at hx; cases hx
                omega
              subst hij
              rw [h1, Nat.sub_self] at hx
              simp only [List.getElem?_cons_zero, Option.some.injEq] at hx
              subst hx
              rw [E.fl_ufl]
              exact ⟨h3, h4⟩
        obtain ⟨xs, hxl, hxs⟩ := hxs len (Nat.le_refl _)
        have hr : ∀ (i : Nat) x r, xs[i]? = some x → ((List.range len).map row)[i]? = some r → RD E (allZ w) (E.flat t) (E.fl t x) r := fun i x r h1 h2 => by
          have hil : i < len := by rw [← hxl]; exact (List.getElem?_eq_some_iff.1 h1).1
          rw [List.getElem?_map, List.getElem?_range hil] at h2
          simp only [Option.map_some, Option.some.injEq] at h2
          subst h2
          exact (hxs i x h1).1
        refine ⟨(xs, ()), ?_, fun k => ⟨?_, trivial⟩⟩
        · have hs : SlF (allZ w).F (E.size t) (some a) xs.length ((List.range len).map row) (allZ w).w := by
            refine ⟨by simp [hxl], fun hn => ?_⟩
            obtain ⟨b, off, spot⟩ := a
            rw [hxl] at hn
            have g0 := (World.cells?_some (hrow 0 hn).1).2
            have hg := g0.2 0 hc
            obtain ⟨c0, hc0⟩ : ∃ c0, (row 0)[0]? = some c0 := ⟨(row 0)[0]'(by rw [g0.1]; exact hc), List.getElem?_eq_getElem _⟩
            rw [hc0] at hg
            have hspot : spot = none := by simpa [Addr.add] using World.cell?_spot hg
            subst hspot
            refine ⟨b, off, rfl, ?_, fun i r hr => ?_⟩
            · have hb : ((Addr.add ⟨b, off, none⟩ (0 * E.size t)).add 0).block = b := by rw [Addr.add_mk, Addr.add_mk]
              unfold World.cell? at hg
              split at hg
              · rename_i heap _ _ hh
                rw [hb] at hh
                show b < w.heap.size
                rcases Nat.lt_or_ge b w.heap.size with h' | h'
                · exact h'
                · rw [Array.getElem?_eq_none h'] at hh; cases hh
              · cases hg
            · rw [List.getElem?_map] at hr
              by_cases hi' : i < len
              · rw [List.getElem?_range hi'] at hr
                simp only [Option.map_some, Option.some.injEq] at hr
                subst hr
                obtain ⟨_, h2, h3⟩ := World.cells?_some (hrow i hi').1
                refine ⟨h2, fun j u hu => ?_⟩
                have hj : j < E.size t := by rw [← h2]; exact (List.getElem?_eq_some_iff.1 hu).1
                have := h3 j hj
                rw [Addr.add_mk, Addr.add_mk] at this
                show w.cell? _ = _
                rw [this]; exact hu
              · rw [List.getElem?_eq_none (by simp; omega)] at hr
                cases hr
          have := RD.sl (E := E) (z := allZ w) (e := t) (xs := xs) (cap := cap) (ts := []) (h := ()) hs (by rw [hxl]; exact hl) hr .nil
          rw [hxl] at this
          exact this
        · have hb : xs.length ≤ 9223372036854775807 := by unfold maxLen at hm; omega
          cases k with
          | zero => exact hb
          | succ k =>
            refine ⟨hb, fun x hx => ?_⟩
            obtain ⟨i, hi'⟩ := List.mem_iff_getElem?.1 hx
            exact (hxs i x hi').2 k
    · rename_i fs m hu
      obtain ⟨xs, q, _, rfl, hcl, hxl, hf⟩ := DataW.trod_struct hu hd
      have := fields_opens (fun T t cs x hk ht => trod_opens (n := n) hk ht) hcl h (by simpa using hxl) (fun i g hg => hf i g (by simpa using hg))
      rw [List.drop_zero] at this
      exact this
    · rename_i c e m hu
      split at h
      · rename_i t hty
        simp only [Bool.and_eq_true] at h
        obtain ⟨h1, h2, h3⟩ := h
        obtain ⟨xs, q, _, rfl, hcl, hxl, hf⟩ := DataW.trod_array hu hd
        have hlen : cs.length = c * P.cellsOf e := by rw [hcl]; exact (Nat.eq_of_beq_eq_true h2).symm
        have := arr_opens (c := P.cellsOf e) (m := 0) (e := 0) (t := t) hlen (fun i hi => by
          have := hf i hi
          rw [List.getElem?_eq_getElem (by omega)] at this
          exact trod_opens h1 this) (Nat.le_refl c) h3
        rw [Nat.sub_self, Nat.zero_mul, List.drop_zero] at this
        exact this
      · cases h
    · cases h
theorem open_arg {r : Reach} {b0 n : Nat} {T : TypeId} {t : Ty} {v : Value} {d : DataW H} {ps : List MemPlace} (ht : tyOK P E n T t = true) (hv : Value.okWide P w r b0 T v) (h : DataW.Trod enc P w 0 spare held T v d ps) :
    ∃ x : Den E.S t, (∃ y, asV E t (E.cells t x) = some y ∧ ∀ (g : Ga), R1 P E (allZ w) g y v) ∧ Fit E t x := by
  obtain ⟨fuel, hf⟩ := h
  obtain ⟨hh, h1, h2⟩ := trod_opens ht hf
  refine ⟨E.ufl t hh, ?_, fun k => by rw [E.fl_ufl]; exact h2 k⟩
  have hcells : RD E (allZ w) (E.flat t) (E.fl t (E.ufl t hh)) v.cells.toList := by rw [E.fl_ufl]; exact h1
  have hRT : RT E (allZ w) t (E.ufl t hh) v := by
    cases n with
    | zero => cases ht
    | succ n =>
      simp only [tyOK] at ht
      split at ht
      · rename_i k k' hu
        obtain ⟨m, rfl⟩ := okWide_int hu hv
        exact hcells
      · rename_i hu
        obtain ⟨m, rfl⟩ := okWide_bool hu hv
        exact hcells
      · rename_i hu
        obtain ⟨m, rfl⟩ := okWide_string hu hv
        exact hcells
      · rename_i e t hu
        obtain ⟨a, len, cap, rfl⟩ := okWide_slice hu hv
        exact hcells
      · rename_i fs m hu
        obtain ⟨cs, rfl, _⟩ := okWide_struct hu hv
        exact ⟨cs.toList, by rw [Array.toArray_toList], hcells⟩
      · rename_i c e m hu
        simp only [Value.okWide, hu] at hv
        obtain ⟨cs, rfl, _⟩ := hv
        exact ⟨cs.toList, by rw [Array.toArray_toList], hcells⟩
      · cases ht
  obtain ⟨y, h3, h4⟩ := RT_asV (P := P) hRT (fun _ => .none)
  refine ⟨y, h3, fun g => ?_⟩
  obtain ⟨y', h5, h6⟩ := RT_asV (P := P) hRT g
  rw [h3] at h5
  obtain rfl := Option.some.inj h5
  exact h6
theorem law_of_con {f : FuncId} {ps : List Pm} {F : PA E ps → Option (Tp E.S (Rs.ts [(.bool, [])] ++ backs ps))} {ali : Bool} (hc : (conOf E ps [(.bool, [])] ali F).OK P E f) (hl : lends ps = false) {a : PA E ps} {y : Tp E.S (Rs.ts [(.bool, [])] ++ backs ps)} (hF : F a = some y)
    (hy : (hfst (Rs.ts [(.bool, [])]) (backs ps) (ofTp _ y)).1 = true) {svs : List (V1 E)} (hsv : argsV E ps a 0 = some svs) {vs : List Value} (hvs : All2 (R1 P E (allZ w) fun _ => none) svs vs) :
    Ret P f vs.toArray w fun v w' => v = .bool true ∧ Below w.heap.size w w' := by
  obtain ⟨rh, bh, hk, hcall⟩ := hc Bool a (fun rh _ => some rh.1) true (by
    show (F a).bind _ = _
    rw [hF]
    exact congrArg some hy)
  have hin : (allZ w).In w := fun k hk => ⟨hk, rfl⟩
  refine (hcall w (allZ w) (fun _ => none) [] svs vs hsv (by
    show HR P E [] (allZ w).F w w (allZ w) (fun _ => none) (upH (fun _ => none) (argsO E ps a 0))
    rw [argsO_own hl]
    exact HR.nothing hin _) (fun _ _ => rfl) hvs).mono fun v w' ⟨z', g', svr, _, _, _, hres, hrv, hHR⟩ => ?_
  refine ⟨?_, hHR.chg.below⟩
  have hrh : rh.1 = true := Option.some.inj hk
  have e : svr = [.one (.dt .bool rh.1)] := (Option.some.inj hres).symm
  subst e
  rw [hrh] at hrv
  exact SV.bool_ok rfl hrv
end
end Rt
end Go
