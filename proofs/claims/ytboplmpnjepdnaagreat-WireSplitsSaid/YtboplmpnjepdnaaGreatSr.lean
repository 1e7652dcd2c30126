/-
  The second engine: regions that draw their order, in which a variable is made at any time. No program in sight.
-/
import Derived.Test.YtboplmpnjepdnaaGreatSq
namespace Go
namespace Rt
open Go.RowKit

variable {P : Program} {E : TE} {eqs : List (Nat × Nat)} {tab : Tab E} {N : Nat} {Bs : List Nat} {F0 : Org} {w0 : World}
/-- A block that nothing that is known speaks of. -/
structure Apart1 (w0 : World) (z : Fz) (g : Ga) (H : Nat → Option (Obj E)) (w : World) (q : Nat) (o : Go.Obj) : Prop where
  at_ : w.heap[q]? = some o
  new : w0.heap.size ≤ q
  fp : ∀ id p k, H id = some p → fpO g id p k → k ≠ q
  fz : ¬ z.F q
/-- Slots and memory are as they should be; beside them a variable that is not known yet. -/
def RelF (P : Program) (E : TE) (Bs : List Nat) (F0 : Org) (w0 : World) (N : Nat) (d q : Nat) (o : Go.Obj) (L : Nat → Option (SV E)) (H : Nat → Option (Obj E)) (nx : Nat) (a : Act) (w : World) : Prop :=
  ∃ z g, ER P E z g N a L ∧ HR P E Bs F0.z.F w0 w z g H ∧ Fresh g nx ∧ F0.z.Le z ∧ F0.g.Le g ∧ Apart1 w0 z g H w q o ∧ a.tmps[d]? = some (.pointer (some ⟨q, 0, none⟩))
theorem Apart1.ext {z : Fz} {g : Ga} {H : Nat → Option (Obj E)} {w w' : World} {q : Nat} {o : Go.Obj} (h : Apart1 w0 z g H w q o) (hx : Ext w w') : Apart1 w0 z g H w' q o := by
  have hlt : q < w.heap.size := (Array.getElem?_eq_some_iff.1 h.at_).1
  exact ⟨(hx.below.block q hlt).trans h.at_, h.new, h.fp, h.fz⟩
theorem RelF.ext {d q : Nat} {o : Go.Obj} {L : Nat → Option (SV E)} {H : Nat → Option (Obj E)} {nx : Nat} {a : Act} {w w' : World} (h : RelF P E Bs F0 w0 N d q o L H nx a w) (hx : Ext w w') : RelF P E Bs F0 w0 N d q o L H nx a w' :=
  let ⟨z, g, h1, h2, h3, h4, h5, h6, h7⟩ := h
  ⟨z, g, h1, h2.ext hx, h3, h4, h5, h6.ext hx, h7⟩
/-- An operation leaves alone what it does not know of. -/
theorem evOp_frame (heq : ∀ p ∈ eqs, EqFact P E p.1 p.2) (ht : tab.OK P E) {R : Type} {r : R} {z : Fz} {g : Ga} {L : Nat → Option (SV E)} {H : Nat → Option (Obj E)} {nx : Nat} {a : Act} {w : World} {o : Oper} {K : Act → World → Prop} {Q : Exit → Act → World → Prop} {k : Option (SV E) → Chs E → Option R} {q : Nat} {ob : Go.Obj}
    (hnx : Fresh g nx) (hE : ER P E z g N a L) (hH : HR P E Bs F0.z.F w0 w z g H) (hap : Apart1 w0 z g H w q ob) (h : evOp P E eqs tab L H nx o k = some r)
    (hK : ∀ s u v w' z2 g2, k s u = some r → z.Le z2 → g.Le g2 → ER P E z2 g2 N a L → HR P E Bs F0.z.F w0 w' z2 g2 (upH H u) → Fresh g2 (nx + 1 + u.length) → (∀ sv, s = some sv → RV P E z2 g2 sv v) → (makesB tab L o = true → Ext w w') → Apart1 w0 z2 g2 (upH H u) w' q ob → K (a.put o.dst v) w') : o.wp P a w K Q := by
  have hlt : ∀ i p, H i = some p → i < nx := fun i p e => by
    obtain ⟨l', hl⟩ := (hH.hold i p e).loc
    rcases Nat.lt_or_ge i nx with h5 | h5
    · exact h5
    · rw [hnx i h5] at hl; cases hl
  let B : List Nat := ((List.range nx).map (blk H g)).flatten
  have hB : ∀ i p k, H i = some p → fpO g i p k → k ∈ B := fun i p k e hk => List.mem_flatten.2 ⟨_, List.mem_map.2 ⟨i, List.mem_range.2 (hlt i p e), rfl⟩, mem_blk.2 ⟨p, e, hk⟩⟩
  have hB' : ∀ k, k ∈ B → ∃ i p, i ∈ List.range nx ∧ H i = some p ∧ fpO g i p k := fun k hk => by
    obtain ⟨_, i, p, h4, h5, h6⟩ := mem_blks hk
    exact ⟨i, p, List.mem_range.2 (hlt i p h5), h5, h6⟩
  have hqB : q ∉ B := fun hq => by
    obtain ⟨i, p, _, h5, h6⟩ := hB' q hq
    exact hap.fp i p q h5 h6 rfl
  have hqlt : q < w.heap.size := (Array.getElem?_eq_some_iff.1 hap.at_).1
  have hp := hH.part (fun _ _ e => e) hB
  refine evOp_ok2 (Bs := B) (F0 := z.F) (w0 := w) heq ht hnx hE hp h fun s u v w' z2 g2 hk hz2 hg2 hE2 hH2 hf2 hv hmk => ?_
  refine hK s u v w' z2 g2 hk hz2 hg2 hE2 ?_ hf2 hv hmk ⟨?_, hap.new, fun id p k he hfp => ?_, fun hz => ?_⟩
  · refine hH.back (I := List.range nx) (s := fun j i => j = i) hH2 (fun k hk => ?_) hg2 (fun j p hj => .inl ⟨j, rfl, hj⟩) (fun j j' i h7 h8 => h7.trans h8.symm) (fun j i p h7 h8 => by subst h7; exact ⟨hH2.hold _ _ h8, fun _ => Iff.rfl⟩) hz2 hH2.fz fun k hk => ?_
    · exact hB' k hk
    · rcases hH2.fz0 k hk with h7 | h7 | h7
      · exact .inl h7
      · exact .inr ⟨.inl h7, hk⟩
      · exact .inr ⟨.inr h7, hk⟩
  · exact (hH2.chg.block q hqlt hqB).trans hap.at_
  · rcases hH2.own id p k he hfp with h7 | h7
    · omega
    · intro e; subst e; exact hqB h7
  · rcases hH2.fz0 q hz with h7 | h7 | h7
    · exact hap.fz h7
    · omega
    · exact hqB h7
/-- The variable becomes known. -/
theorem HR.adopt {z : Fz} {g : Ga} {H : Nat → Option (Obj E)} {F : Nat → Prop} {w : World} {q n : Nat} {T : TypeId} {cs : List (SC E)} {vs : List Value} (hH : HR P E Bs F w0 w z g H) (hn : g n = none) (hap : Apart1 w0 z g H w q (.cells vs.toArray T (0, 0))) (hcs : All2 (RC P E z g) cs vs) :
    HR P E Bs F w0 w z (g.put n ⟨none, 0, 0, 0, q, 0⟩) (upH H [(n, some (.box T cs))]) := by
  have hle := Ga.le_put (l := ⟨none, 0, 0, 0, q, 0⟩) hn
  have hG := hH.ga hle
  have hself := Ga.put_self g n ⟨none, 0, 0, 0, q, 0⟩
  have hfp : ∀ k, fpO (g.put n ⟨none, 0, 0, 0, q, 0⟩) n (Obj.box T cs : Obj E) k → k = q := fun k hk => by
    obtain ⟨l, h1, h2⟩ := hk
    rw [hself] at h1; obtain rfl := Option.some.inj h1
    exact h2
  have hold : ∀ j p k, H j = some p → fpO (g.put n ⟨none, 0, 0, 0, q, 0⟩) j p k → k ≠ q := fun j p k e hk => hap.fp j p k e ((fpO_le (hH.hold j p e).loc hle).1 hk)
  refine ⟨hG.chg, fun j p e => ?_, fun j p k e hk => ?_, fun j j' p p' k hj e e' hk hk' => ?_, hG.fz, hG.fz0, fun j p k e hk hz => ?_⟩
  · rcases upH_one e with ⟨rfl, rfl⟩ | ⟨_, h2⟩
    · exact ⟨_, vs, hself, hap.at_, hcs.mono fun _ _ h => RC.le h (Fz.Le.refl z) hle⟩
    · exact hG.hold j p h2
  · rcases upH_one e with ⟨rfl, rfl⟩ | ⟨_, h2⟩
    · rw [hfp k hk]; exact .inl hap.new
    · exact hG.own j p k h2 hk
  · rcases upH_one e with ⟨rfl, rfl⟩ | ⟨_, h2⟩ <;> rcases upH_one e' with ⟨rfl, rfl⟩ | ⟨_, h2'⟩
    · exact hj rfl
    · exact hold j' p' k h2' hk' (hfp k hk)
    · exact hold j p k h2 hk (hfp k hk')
    · exact hG.apart j j' p p' k hj h2 h2' hk hk'
  · rcases upH_one e with ⟨rfl, rfl⟩ | ⟨_, h2⟩
    · rw [hfp k hk] at hz; exact hap.fz hz
    · exact hG.fza j p k h2 hk hz
theorem put_same {a : Act} {d : Nat} {v : Value} (h : a.tmps[d]? = some v) : a.put (some d) v = a := by
  unfold Act.put
  have : a.tmps.setIfInBounds d v = a.tmps := by
    apply Array.ext_getElem?
    intro i
    rw [Array.getElem?_setIfInBounds]
    split
    · rename_i hi; subst hi
      split
      · exact h.symm
      · rename_i hlt; rw [Array.getElem?_eq_none (by omega)]
    · rfl
  simp only [this]
theorem put_other {a : Act} {d : Nat} {o : Oper} {v u : Value} (h : a.tmps[d]? = some v) (hd : o.dst ≠ some d) : (a.put o.dst u).tmps[d]? = some v := by
  unfold Act.put
  split
  · rename_i e he
    rw [Array.getElem?_setIfInBounds]
    split
    · rename_i hi; subst hi; exact absurd he hd
    · exact h
  · exact h
theorem memN_dstsT {d : Nat} : ∀ {l : List (Nat × Oper × Nat)}, memN d (dstsT l) = false → ∀ t ∈ l, t.2.1.dst ≠ some d
  | [], _, _, h => by cases h
  | t0 :: l, hm, t, h => by
    simp only [dstsT] at hm
    cases hd : t0.2.1.dst with
    | none =>
      rw [hd] at hm
      rcases List.mem_cons.1 h with rfl | h
      · rw [hd]; exact fun e => nomatch e
      · exact memN_dstsT hm t h
    | some d' =>
      rw [hd] at hm
      simp only [memN] at hm
      have hne : Nat.beq d d' = false := by
        cases hb : Nat.beq d d' with
        | true => rw [hb] at hm; cases hm
        | false => rfl
      rw [hne] at hm
      rcases List.mem_cons.1 h with rfl | h
      · rw [hd]; intro e; obtain rfl := Option.some.inj e; exact beq_false hne rfl
      · exact memN_dstsT hm t h
theorem after_okF {b : Ba E} {s s1 : St E} {o : Oper} {v : Option (SV E)} {u : Chs E} {a : Act} {w' : World} {x : Value} {z : Fz} {g : Ga} {d q : Nat} {ob : Go.Obj} (h : s.after N o v u = some s1) (hE : ER P E z g N a (s.L b)) (hH : HR P E Bs F0.z.F w0 w' z g (upH (s.H b) u)) (hz0 : F0.z.Le z) (hg0 : F0.g.Le g) (hf : Fresh g (s.nx + 1 + u.length)) (hv : ∀ sv, v = some sv → RV P E z g sv x)
    (hap : Apart1 w0 z g (upH (s.H b) u) w' q ob) (hd : (a.put o.dst x).tmps[d]? = some (.pointer (some ⟨q, 0, none⟩))) : RelF P E Bs F0 w0 N d q ob (s1.L b) (s1.H b) s1.nx (a.put o.dst x) w' := by
  obtain ⟨⟨h1, h2, h3, h4⟩, _⟩ := after_ok2 h hE hH hf hv
  exact ⟨z, g, h1, h2, h3, hz0, hg0, by rw [h4]; exact hap, hd⟩
/-- The variable was made early. -/
theorem evB_early (heq : ∀ p ∈ eqs, EqFact P E p.1 p.2) (ht : tab.OK P E) {I : World → Prop} (hIx : ∀ w w', I w → Ext w w' → I w') {R : Type} {r : R} {all : List Oper} {tl fr : List Nat} {Q : Exit → Act → World → Prop} {b : Ba E} {k : St E → Option R}
    (hK : ∀ s' a' w', k s' = some r → Rel P E Bs F0 w0 N (s'.L b) (s'.H b) s'.nx a' w' → Q .normal a' w') {fi d T : Nat} {fo : Oper} {post : List (Nat × Oper × Nat)} {zs : List Value} {q : Nat} (hfa : fo.op = .alloc T) (hfg : fo.guard = none) (hfd : fo.dst = some d) (hz : zeroOf P T = some zs) (hpost : ∀ t ∈ post, all[t.1]? = some t.2.1 ∧ (t.2.2 = 2 → t.1 ∈ tl)) : ∀ {pre : List (Nat × Oper × Nat)} {s : St E} {a : Act} {w : World},
    evB P E eqs tab N false b (pre ++ (fi, fo, 1) :: post) s k = some r → (∀ t ∈ pre, all[t.1]? = some t.2.1 ∧ (t.2.2 = 2 → t.1 ∈ tl)) → (∀ t ∈ pre, t.2.1.dst ≠ some d) → RelF P E Bs F0 w0 N d q (.cells zs.toArray T (0, 0)) (s.L b) (s.H b) s.nx a w → wpMixI P all.toArray tl fr I Q (trOrd pre ++ trOrd post) a w
  | [], s, a, w, h, _, _, hR => by
    obtain ⟨z, g, hE, hH, hfr, hz0, hg0, hap, hd⟩ := hR
    rw [List.nil_append] at h
    unfold evB at h
    simp only [hfg] at h
    have hq1 : quietM 1 = false := rfl
    rw [hq1] at h
    simp only at h
    split at h
    · cases h
    · unfold evOp at h
      simp only [hfa] at h
      unfold lAlloc at h
      split at h
      · rename_i cs hcs
        obtain ⟨zs', hz', hrel⟩ := zeroC_ok (z := z) (g := g) hcs
        rw [hz] at hz'
        obtain rfl := Option.some.inj hz'
        simp only at h
        split at h
        · rename_i s1 hs1
          have hA := hH.adopt hfr.self hap hrel
          have hle := Ga.le_put (l := ⟨none, 0, 0, 0, q, 0⟩) hfr.self
          obtain ⟨hR1, _⟩ := after_ok (F0 := F0) (x := .pointer (some ⟨q, 0, none⟩)) hs1 (hE.le (Fz.Le.refl z) hle) hA hz0 (hg0.trans hle) (fun i hi => by
            have := hfr.put (⟨none, 0, 0, 0, q, 0⟩ : Loc) i (by simp at hi; omega)
            exact this) (fun sv e => by obtain rfl := Option.some.inj e; exact ⟨_, Ga.put_self _ _ _, rfl⟩)
          rw [hfd, put_same hd] at hR1
          exact evB_ok (fm := false) heq ht hIx (fun e => by cases e) hK h hpost hR1
        · cases h
      · cases h
  | (i, o, f) :: pre, s, a, w, h, hall, hds, hR => by
    obtain ⟨ho, htl⟩ := hall _ (List.mem_cons_self ..)
    have hall' : ∀ t ∈ pre, all[t.1]? = some t.2.1 ∧ (t.2.2 = 2 → t.1 ∈ tl) := fun t ht => hall t (List.mem_cons_of_mem _ ht)
    have hds' : ∀ t ∈ pre, t.2.1.dst ≠ some d := fun t ht => hds t (List.mem_cons_of_mem _ ht)
    have hod : o.dst ≠ some d := hds _ (List.mem_cons_self ..)
    simp only at ho htl
    rw [List.cons_append] at h
    unfold evB at h
    split at h
    · cases h
    · rename_i hgd
      simp only [trOrd, List.cons_append]
      split at h
      · rename_i hf0
        rw [hf0]
        obtain ⟨z, g, hE, hH, hfr, hz0, hg0, hap, hd⟩ := hR
        obtain ⟨sv, v, up, g2, hk, hgl, hgn, hv, hrun, hup⟩ := qFree_ok (nx := s.nx) heq hE.op (hH.less (H' := fun _ => none) fun _ _ e => by cases e) h (fun _ => True)
        simp only at hk
        split at hk
        · cases hk
        · obtain rfl : g2 = g := hup
          split at hk
          · rename_i s1 hs1
            have hR1 := after_okF (u := []) hs1 hE hH hz0 hg0 (fun j hj => hfr j (by simp only [List.length_nil] at hj; omega)) (fun sv' e => by obtain rfl := Option.some.inj e; exact hv) hap (put_other hd hod)
            refine wpMixI_quiet o ho fun K hK' => ?_
            rw [if_pos (wanted_none hgd _)]
            exact ⟨v, fun w' _ => by rw [hrun w' trivial]; exact ⟨rfl, rfl⟩, hK' _ (evB_early heq ht hIx hK hfa hfg hfd hz hpost hk hall' hds' hR1)⟩
          · cases hk
      · rename_i hf0
        rw [hf0]
        split at h
        · cases h
        · rename_i hfl
          refine wpMixI_loud o ho fun K hK' X e => ?_
          have hx : Ext w (w.ext X e) := ⟨X, e, rfl⟩
          obtain ⟨z, g, hE, hH, hfr, hz0, hg0, hap, hd⟩ := hR.ext hx
          refine wpList_step fun K2 hK2 => ?_
          rw [if_pos (wanted_none hgd _)]
          refine evOp_frame heq ht hfr hE hH hap h fun v u x w' z2 g2 hk hz2 hg2 hE2 hH2 hf2 hv hmk hap2 => hK2 _ _ ?_
          split at hk
          · rename_i s1 hs1
            have hR1 := after_okF hs1 hE2 hH2 (hz0.trans hz2) (hg0.trans hg2) hf2 hv hap2 (put_other hd hod)
            show K _ _
            refine hK' _ _ (fun hc hw => ?_) (evB_early heq ht hIx hK hfa hfg hfd hz hpost hk hall' hds' hR1)
            simp only [Bool.or_eq_true, Bool.false_eq_true, false_or] at hfl
            rcases hfl with h1 | h1
            · obtain rfl := Nat.eq_of_beq_eq_true h1
              rw [List.contains_iff_mem.2 (htl rfl)] at hc
              cases hc
            · exact hIx _ _ (hIx _ _ hw hx) (hmk h1)
          · cases hk
/-- .. or it is made late. -/
theorem evB_float (heq : ∀ p ∈ eqs, EqFact P E p.1 p.2) (ht : tab.OK P E) {I : World → Prop} (hIx : ∀ w w', I w → Ext w w' → I w') {R : Type} {r : R} {all : List Oper} {tl fr : List Nat} {Q : Exit → Act → World → Prop} {b : Ba E} {k : St E → Option R}
    (hK : ∀ s' a' w', k s' = some r → Rel P E Bs F0 w0 N (s'.L b) (s'.H b) s'.nx a' w' → Q .normal a' w') {fi d T : Nat} {fo : Oper} {post : List (Nat × Oper × Nat)} (hfi : all[fi]? = some fo) (hfa : fo.op = .alloc T) (hfg : fo.guard = none) (hfd : fo.dst = some d) (hpost : ∀ t ∈ post, all[t.1]? = some t.2.1 ∧ (t.2.2 = 2 → t.1 ∈ tl)) : ∀ {pre : List (Nat × Oper × Nat)} {s : St E} {a : Act} {w : World},
    evB P E eqs tab N false b (pre ++ (fi, fo, 1) :: post) s k = some r → (∀ t ∈ pre, all[t.1]? = some t.2.1 ∧ (t.2.2 = 2 → t.1 ∈ tl)) → (∀ t ∈ pre, t.2.1.dst ≠ some d) → s.L b d = none → Nat.blt d N = true → (∃ zs, zeroOf P T = some zs) → Rel P E Bs F0 w0 N (s.L b) (s.H b) s.nx a w → wpMixF P all.toArray tl fr I Q fi (trOrd post) (trOrd pre) a w
  | [], s, a, w, h, _, _, _, _, _, hR => by
    rw [List.nil_append] at h
    exact evB_ok (fm := false) heq ht hIx (fun e => by cases e) hK (l := (fi, fo, 1) :: post) h (fun t ht => by
      rcases List.mem_cons.1 ht with rfl | ht
      · exact ⟨hfi, fun e => nomatch e⟩
      · exact hpost t ht) hR
  | (i, o, f) :: pre, s, a, w, h, hall, hds, hLd, hdN, hzs, hR => by
    obtain ⟨ho, htl⟩ := hall _ (List.mem_cons_self ..)
    have hall' : ∀ t ∈ pre, all[t.1]? = some t.2.1 ∧ (t.2.2 = 2 → t.1 ∈ tl) := fun t ht => hall t (List.mem_cons_of_mem _ ht)
    have hds' : ∀ t ∈ pre, t.2.1.dst ≠ some d := fun t ht => hds t (List.mem_cons_of_mem _ ht)
    have hod : o.dst ≠ some d := hds _ (List.mem_cons_self ..)
    have hfull := h
    simp only at ho htl
    rw [List.cons_append] at h
    unfold evB at h
    split at h
    · cases h
    · rename_i hgd
      simp only [trOrd]
      split at h
      · rename_i hf0
        rw [hf0]
        obtain ⟨z, g, hE, hH, hfr, hz0, hg0⟩ := hR
        obtain ⟨sv, v, up, g2, hk, hgl, hgn, hv, hrun, hup⟩ := qFree_ok (nx := s.nx) heq hE.op (hH.less (H' := fun _ => none) fun _ _ e => by cases e) h (fun _ => True)
        simp only at hk
        split at hk
        · cases hk
        · obtain rfl : g2 = g := hup
          split at hk
          · rename_i s1 hs1
            obtain ⟨hR1, hL1⟩ := after_ok (u := []) hs1 hE hH hz0 hg0 (fun j hj => hfr j (by simp only [List.length_nil] at hj; omega)) (fun sv' e => by obtain rfl := Option.some.inj e; exact hv)
            refine wpMixF_quiet o ho fun K hK' => ?_
            rw [if_pos (wanted_none hgd _)]
            exact ⟨v, fun w' _ => by rw [hrun w' trivial]; exact ⟨rfl, rfl⟩, hK' _ (evB_float heq ht hIx hK hfi hfa hfg hfd hpost hk hall' hds' ((hL1 d fun d' e => by rw [e] at hod; exact fun h => hod (by rw [h])).trans hLd) hdN hzs hR1)⟩
          · cases hk
      · rename_i hf0
        rw [hf0]
        split at h
        · cases h
        · rename_i hfl
          refine wpMixF_loud o fo ho hfi (fun K hK' X e => ?_) fun K hK' X e => ?_
          · have hx : Ext w (w.ext X e) := ⟨X, e, rfl⟩
            obtain ⟨z, g, hE, hH, hfr, hz0, hg0⟩ := hR.ext hx
            refine wpList_step fun K2 hK2 => ?_
            rw [if_pos (wanted_none hgd _)]
            refine evOp_ok2 heq ht hfr hE hH h fun v u x w' z2 g2 hk hz2 hg2 hE2 hH2 hf2 hv hmk => hK2 _ _ ?_
            split at hk
            · rename_i s1 hs1
              obtain ⟨hR1, hL1⟩ := after_ok hs1 hE2 hH2 (hz0.trans hz2) (hg0.trans hg2) hf2 hv
              show K _ _
              refine hK' _ _ (fun hc hw => ?_) (evB_float heq ht hIx hK hfi hfa hfg hfd hpost hk hall' hds' ((hL1 d fun d' e => by rw [e] at hod; exact fun h => hod (by rw [h])).trans hLd) hdN hzs hR1)
              simp only [Bool.or_eq_true, Bool.false_eq_true, false_or] at hfl
              rcases hfl with h1 | h1
              · obtain rfl := Nat.eq_of_beq_eq_true h1
                rw [List.contains_iff_mem.2 (htl rfl)] at hc
                cases hc
              · exact hIx _ _ (hIx _ _ hw hx) (hmk h1)
            · cases hk
          · have hx : Ext w (w.ext X e) := ⟨X, e, rfl⟩
            obtain ⟨zs, hz⟩ := hzs
            obtain ⟨z, g, hE, hH, hfr, hz0, hg0⟩ := hR.ext hx
            refine wpList_step fun K2 hK2 => ?_
            rw [if_pos (wanted_none hfg _)]
            unfold Oper.wp
            rw [run_alloc hfa hz]
            simp only [Oper.upon]
            rw [hfd]
            refine hK2 _ _ ?_
            show K _ _
            generalize hw1 : w.ext X e = w1 at hE hH hx
            have hx2 : Ext w1 (w1.alloc (.cells zs.toArray T)) := Ext.one w1 _
            have hb : wpMixI P all.toArray tl fr I Q (trOrd ((i, o, f) :: pre) ++ trOrd post) (a.put (some d) (.pointer (some ⟨w1.heap.size, 0, none⟩))) (w1.alloc (.cells zs.toArray T)) := by
              refine evB_early (q := w1.heap.size) heq ht hIx hK hfa hfg hfd hz hpost hfull hall hds ?_
              refine ⟨z, g, hE.del (fun t u hu => ⟨fun e => ?_, hu⟩), hH.ext hx2, hfr, hz0, hg0, ⟨?_, hH.size, fun id p k he hfp => ?_, fun hzq => ?_⟩, ?_⟩
              · subst e; rw [hLd] at hu; cases hu
              · show (w1.heap.push _)[w1.heap.size]? = _
                simp
              · have := (hH.hold id p he).lt hfp; omega
              · have := (hH.fz _ hzq).1; omega
              · unfold Act.put
                have : d < a.tmps.size := by rw [hE.size]; exact Nat.le_of_ble_eq_true hdN
                simp [this]
            simp only [trOrd, hf0, Bool.not_false] at hb
            exact hK' _ _ (fun _ hw => hIx _ _ (hIx _ _ hw hx) hx2) hb
/-- Quiet operations, carried out in the world in which the region begins. -/
def quietWalkF (heq : ∀ p ∈ eqs, EqFact P E p.1 p.2) (ht : tab.OK P E) (all : List Oper) (tl fr : List Nat) (m : Nat) (hm : ∀ i, i < m → fr.contains i = false) (W : World) (I : World → Prop) (hI : ∀ z g H, HR P E Bs F0.z.F w0 W z g H → F0.z.Le z → ∀ w', I w' → Keeps P E z g H W w') (Q : Exit → Act → World → Prop) (fi : Nat) (post : List (Nat × Bool)) : Walk P E (fun L H nx o _ k => evOpQ P E eqs tab L H nx o k) N Bs F0 w0 all where
  W J l i a w := w = W → i + l.length ≤ m → ∀ rest : List (Nat × Bool), (∀ a', J a' W → wpMixF P all.toArray tl fr I Q fi post rest a' W) → wpMixF P all.toArray tl fr I Q fi post (qOrd i l ++ rest) a W
  nil hJ := fun e _ rest h => h _ (e ▸ hJ)
  app h1 h2 := fun e hle rest h => by
    rw [qOrd_append, List.append_assoc]
    rw [List.length_append] at hle
    exact h1 e (by omega) _ fun a' hJ => h2 a' W hJ rfl (by omega) rest h
  skip {J o l i a w} ho hw h1 := fun e hle rest h => by
    simp only [List.length_cons] at hle
    simp only [qOrd, List.cons_append]
    refine wpMixF_quiet o ho fun K hK => ?_
    rw [if_neg (by rw [hw]; exact Bool.false_ne_true)]
    exact hK _ (h1 e (by omega) rest h)
  step {J o l i a w R L H nx z g k r} ho hw hE hH hf hz hg hev hk := fun e hle rest h => by
    simp only [List.length_cons] at hle
    subst e
    simp only [qOrd, List.cons_append]
    refine wpMixF_quiet o ho fun K hK => ?_
    rw [if_pos hw, hm i (by omega)]
    obtain ⟨s, u, v, g2, h1, h2, h3, h4, h5, h6⟩ := evOpQ_ok heq ht hf hE hH (hI z g H hH hz) hev
    refine ⟨v, h6, hK _ ?_⟩
    exact hk (some s) u v w z g2 h1 (Fz.Le.refl z) h2 (hE.le (Fz.Le.refl z) h2) h3 h4 (fun sv hsv => by obtain rfl := Option.some.inj hsv; exact h5) rfl (by omega) rest h
  pick {J o l i a w v} ho hw hr h1 := fun e hle rest h => by
    simp only [List.length_cons] at hle
    simp only [qOrd, List.cons_append]
    refine wpMixF_quiet o ho fun K hK => ?_
    rw [if_pos hw]
    exact ⟨v, fun w' _ => by rw [hr]; exact ⟨rfl, rfl⟩, hK _ (h1 e (by omega) rest h)⟩
theorem evH_okF (heq : ∀ p ∈ eqs, EqFact P E p.1 p.2) (ht : tab.OK P E) {W : World} {I : World → Prop} (hI : ∀ z g H, HR P E Bs F0.z.F w0 W z g H → F0.z.Le z → ∀ w', I w' → Keeps P E z g H W w') {R : Type} {r : R} {all : List Oper} {tl fr : List Nat} {Q : Exit → Act → World → Prop} {b : Ba E} {k : St E → Option R} {fi : Nat} {post rest : List (Nat × Bool)}
    (hK : ∀ s' a', k s' = some r → Rel P E Bs F0 w0 N (s'.L b) (s'.H b) s'.nx a' W → wpMixF P all.toArray tl fr I Q fi post rest a' W) : ∀ {hs : List Nat} {s : St E} {a : Act},
    evH P E eqs tab N b all fr hs s k = some r → Rel P E Bs F0 w0 N (s.L b) (s.H b) s.nx a W → wpMixF P all.toArray tl fr I Q fi post (hOrd hs ++ rest) a W
  | [], s, a, h, hR => hK s a h hR
  | i :: hs, s, a, h, hR => by
    unfold evH at h
    split at h
    · cases h
    · rename_i o ho
      split at h
      · cases h
      · rename_i hgd
        obtain ⟨z, g, hE, hH, hfr, hz0, hg0⟩ := hR
        simp only [hOrd, List.cons_append]
        refine wpMixF_quiet o ho fun K hK' => ?_
        rw [if_pos (wanted_none hgd _)]
        split at h
        · rename_i hc
          rw [hc]
          obtain ⟨sv, v, up, g2, hk, hgl, hgn, hv, hrun, hup⟩ := qFree_ok (nx := s.nx) heq hE.op (hH.less (H' := fun _ => none) fun _ _ e => by cases e) h (fun _ => True)
          simp only at hk
          split at hk
          · cases hk
          · obtain rfl : g2 = g := hup
            split at hk
            · rename_i s1 hs1
              obtain ⟨hR1, _⟩ := after_ok (u := []) hs1 hE hH hz0 hg0 (fun j hj => hfr j (by simp only [List.length_nil] at hj; omega)) (fun sv' e => by obtain rfl := Option.some.inj e; exact hv)
              exact ⟨v, fun w' _ => by rw [hrun w' trivial]; exact ⟨rfl, rfl⟩, hK' _ (evH_okF heq ht hI hK hk hR1)⟩
            · cases hk
        · rename_i hc
          rw [hc]
          obtain ⟨sv, u, v, g2, hk, h2, h3, h4, h5, h6⟩ := evOpQ_ok heq ht hfr hE hH (hI z g _ hH hz0) h
          simp only at hk
          split at hk
          · rename_i s1 hs1
            obtain ⟨hR1, _⟩ := after_ok hs1 (hE.le (Fz.Le.refl z) h2) h3 hz0 (hg0.trans h2) h4 (fun sv' e => by obtain rfl := Option.some.inj e; exact h5)
            exact ⟨v, h6, hK' _ (evH_okF heq ht hI hK hk hR1)⟩
          · cases hk
theorem evFloat_ok (heq : ∀ p ∈ eqs, EqFact P E p.1 p.2) (ht : tab.OK P E) {R : Type} {l : List Oper} {fl hs : List Nat} {p : Nat} {id : Nat} {b : Ba E} {s : St E} {k : St E → Option R} {r : R} {a : Act} {w : World} {Q : Exit → Act → World → Prop} (h : evFloat P E eqs tab N l fl hs p b s k = some r) (hR : Rel P E Bs F0 w0 N (s.L b) (s.H b) s.nx a w)
    (hK : ∀ s' a' w', k s' = some r → Rel P E Bs F0 w0 N (s'.L b) (s'.H b) s'.nx a' w' → Q .normal a' w') : (Code.region id l.toArray true).wp P Q a w := by
  unfold evFloat at h
  split at h
  · cases h
  · rename_i t ht0
    obtain ⟨fi, fo, f1⟩ := t
    split at h
    · cases h
    · rename_i hchk
      simp only [Bool.and_eq_true] at hchk
      obtain ⟨⟨hm, hfb, hf1⟩, hB⟩ := hchk
      obtain rfl := Nat.eq_of_beq_eq_true hf1
      have hmem : ∀ t ∈ trOf hs (quietN fl) (l.drop (quietN fl)) (fl.drop (quietN fl)), l[t.1]? = some t.2.1 ∧ (t.2.2 = 2 → t.1 ∈ tlOf 0 fl) := fun t hmem => by
        obtain ⟨k, h5, h6, h7⟩ := trOf_mem hmem
        rw [List.getElem?_drop] at h6 h7
        rw [← h5] at h6 h7
        refine ⟨h6, fun hf => ?_⟩
        rw [hf] at h7
        have := mem_tlOf (n := 0) h7
        rwa [Nat.zero_add] at this
      have hfi := (hmem _ (List.mem_of_getElem? ht0)).1
      unfold floatB at hfb
      simp only at hfb hfi hB h
      split at hfb
      · rename_i T d hfa hfg hfd
        simp only [Bool.and_eq_true, Bool.not_eq_true'] at hfb
        obtain ⟨hds, hdN, hzb⟩ := hfb
        have hzs : ∃ zs, zeroOf P T = some zs := by
          split at hzb
          · rename_i zs hz; exact ⟨zs, hz⟩
          · cases hzb
        have hdst : dstN fo = d := by unfold dstN; rw [hfd]
        rw [hdst] at h
        have hIx : ∀ w1 w', Ext w w1 → Ext w1 w' → Ext w w' := fun _ _ h1 h2 => h1.trans h2
        have hI : ∀ z g H, HR P E Bs F0.z.F w0 w z g H → F0.z.Le z → ∀ w', Ext w w' → Keeps P E z g H w w' := fun z g H h1 _ w' h2 => Keeps.of_ext h1 h2
        refine wp_region_mixF (I := Ext w) hIx _ _ _ _ hm hB (Ext.refl w) ?_
        have := evList_ok (quietWalkF heq ht l (tlOf 0 fl) (frOf 0 fl) (quietN fl) (fun _ h => notFree h) w (Ext w) hI Q fi (trOrd ((trOf hs (quietN fl) (l.drop (quietN fl)) (fl.drop (quietN fl))).drop (p + 1)))) _ (tl := l.drop (quietN fl)) (J := fun a' w' => w' = w → wpMixF P l.toArray (tlOf 0 fl) (frOf 0 fl) (Ext w) Q fi (trOrd ((trOf hs (quietN fl) (l.drop (quietN fl)) (fl.drop (quietN fl))).drop (p + 1))) (hOrd hs ++ trOrd ((trOf hs (quietN fl) (l.drop (quietN fl)) (fl.drop (quietN fl))).take p)) a' w') h (by simp) hR trivial fun s' a' w' h1 h2 _ hw => by
          subst hw
          refine evH_okF heq ht hI (fun s2 a2 h3 h4 => ?_) h1 h2
          have hL : (({ s2 with env := (d, none) :: s2.env } : St E).L b) d = none := by
            simp only [St.L, aget, Nat.beq_refl]
          have hR2 : Rel P E Bs F0 w0 N (({ s2 with env := (d, none) :: s2.env } : St E).L b) (({ s2 with env := (d, none) :: s2.env } : St E).H b) s2.nx a2 w' := by
            obtain ⟨z, g, hE, hH, hrest⟩ := h4
            exact ⟨z, g, hE.less fun t u hu => (by
              simp only [St.L, aget] at hu ⊢
              cases hb : Nat.beq t d with
              | true => rw [hb] at hu; cases hu
              | false => rw [hb] at hu; exact hu), hH, hrest⟩
          refine evB_float heq ht hIx hK hfi hfa hfg hfd (fun t ht1 => hmem t (List.mem_of_mem_drop ht1)) h3 (fun t ht1 => hmem t (List.mem_of_mem_take ht1)) (memN_dstsT hds) hL hdN hzs hR2
        exact this rfl (by rw [Nat.zero_add]; exact List.length_take_le _ _) _ fun a' h1 => h1 rfl
      · cases hfb
end Rt
end Go
