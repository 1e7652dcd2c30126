/-
  The second engine: regions that draw their order. No program in sight.
-/
import Derived.Test.YtboplmpnjepdnaaGreatSb
namespace Go
namespace Rt
open Go.RowKit

variable {P : Program} {E : TE} {eqs : List (Nat × Nat)} {tab : Tab E} {N : Nat} {Bs : List Nat} {F0 : Org} {w0 : World}
theorem qOrd_append : ∀ (l1 l2 : List Oper) (i : Nat), qOrd i (l1 ++ l2) = qOrd i l1 ++ qOrd (i + l1.length) l2
  | [], _, _ => rfl
  | o :: l1, l2, i => by
    simp only [List.cons_append, qOrd, List.length_cons]
    rw [qOrd_append l1 l2 (i + 1), show i + 1 + l1.length = i + (l1.length + 1) by omega]
/-- Quiet operations, carried out in the world in which the region begins. -/
def quietWalk (heq : ∀ p ∈ eqs, EqFact P E p.1 p.2) (ht : tab.OK P E) (all : List Oper) (tl fr : List Nat) (m : Nat) (hm : ∀ i, i < m → fr.contains i = false) (W : World) (I : World → Prop) (hI : ∀ z g H, HR P E Bs F0.z.F w0 W z g H → F0.z.Le z → ∀ w', I w' → Keeps P E z g H W w') (Q : Exit → Act → World → Prop) : Walk P E (fun L H nx o _ k => evOpQ P E eqs tab L H nx o k) N Bs F0 w0 all where
  W J l i a w := w = W → i + l.length ≤ m → ∀ rest : List (Nat × Bool), (∀ a', J a' W → wpMixI P all.toArray tl fr I Q rest a' W) → wpMixI P all.toArray tl fr I Q (qOrd i l ++ rest) a W
  nil hJ := fun e _ rest h => h _ (e ▸ hJ)
  app h1 h2 := fun e hle rest h => by
    rw [qOrd_append, List.append_assoc]
    rw [List.length_append] at hle
    exact h1 e (by omega) _ fun a' hJ => h2 a' W hJ rfl (by omega) rest h
  skip {J o l i a w} ho hw h1 := fun e hle rest h => by
    simp only [List.length_cons] at hle
    simp only [qOrd, List.cons_append]
    refine wpMixI_quiet o ho fun K hK => ?_
    rw [if_neg (by rw [hw]; exact Bool.false_ne_true)]
    exact hK _ (h1 e (by omega) rest h)
  step {J o l i a w R L H nx z g k r} ho hw hE hH hf hz hg hev hk := fun e hle rest h => by
    simp only [List.length_cons] at hle
    subst e
    simp only [qOrd, List.cons_append]
    refine wpMixI_quiet o ho fun K hK => ?_
    rw [if_pos hw, hm i (by omega)]
    obtain ⟨s, u, v, g2, h1, h2, h3, h4, h5, h6⟩ := evOpQ_ok heq ht hf hE hH (hI z g H hH hz) hev
    refine ⟨v, h6, hK _ ?_⟩
    exact hk (some s) u v w z g2 h1 (Fz.Le.refl z) h2 (hE.le (Fz.Le.refl z) h2) h3 h4 (fun sv hsv => by obtain rfl := Option.some.inj hsv; exact h5) rfl (by omega) rest h
  pick {J o l i a w v} ho hw hr h1 := fun e hle rest h => by
    simp only [List.length_cons] at hle
    simp only [qOrd, List.cons_append]
    refine wpMixI_quiet o ho fun K hK => ?_
    rw [if_pos hw]
    exact ⟨v, fun w' _ => by rw [hr]; exact ⟨rfl, rfl⟩, hK _ (h1 e (by omega) rest h)⟩
theorem Rel.ext {L : Nat → Option (SV E)} {H : Nat → Option (Obj E)} {nx : Nat} {a : Act} {w w' : World} (h : Rel P E Bs F0 w0 N L H nx a w) (hx : Ext w w') : Rel P E Bs F0 w0 N L H nx a w' :=
  let ⟨z, g, h1, h2, h3⟩ := h
  ⟨z, g, h1, h2.ext hx, h3⟩
theorem Rel.inz {L : Nat → Option (SV E)} {H : Nat → Option (Obj E)} {nx : Nat} {a : Act} {w : World} (h : Rel P E Bs F0 w0 N L H nx a w) : F0.z.In w := by
  obtain ⟨z, g, _, h2, _, h4, _⟩ := h
  exact fun k hk => ⟨(h2.fz k (h4 k hk).1).1, (h2.fz k (h4 k hk).1).2.trans (h4 k hk).2⟩
theorem mem_tlOf : ∀ {fl : List Nat} {n k : Nat}, fl[k]? = some 2 → n + k ∈ tlOf n fl
  | [], n, k, h => by simp at h
  | f :: fl, n, 0, h => by
    simp only [List.getElem?_cons_zero, Option.some.injEq] at h
    subst h
    simp [tlOf]
  | f :: fl, n, k + 1, h => by
    have := mem_tlOf (n := n + 1) (show fl[k]? = some 2 by simpa using h)
    rw [show n + 1 + k = n + (k + 1) by omega] at this
    simp only [tlOf]
    split
    · exact List.mem_cons_of_mem _ this
    · exact this
theorem wanted_none {o : Oper} (h : o.guard = none) (y : Nat → Option Bool) : Region.wanted o y = true := by
  unfold Region.wanted
  rw [h]
theorem mem_frOf : ∀ {fl : List Nat} {n i : Nat}, i ∈ frOf n fl → n ≤ i ∧ fl[i - n]? = some 4
  | [], n, i, h => by cases h
  | f :: fl, n, i, h => by
    have next : i ∈ frOf (n + 1) fl → n ≤ i ∧ (f :: fl)[i - n]? = some 4 := fun h => by
      obtain ⟨h1, h2⟩ := mem_frOf h
      refine ⟨by omega, ?_⟩
      rw [show i - n = (i - (n + 1)) + 1 by omega]
      simpa using h2
    simp only [frOf] at h
    split at h
    · rename_i hb
      rcases List.mem_cons.1 h with rfl | h
      · obtain rfl := Nat.eq_of_beq_eq_true hb
        simp
      · exact next h
    · exact next h
theorem quietN_get : ∀ {fl : List Nat} {i : Nat}, i < quietN fl → fl[i]? = some 0
  | [], i, h => by simp [quietN] at h
  | f :: fl, i, h => by
    simp only [quietN] at h
    split at h
    · rename_i hb
      obtain rfl := Nat.eq_of_beq_eq_true hb
      cases i with
      | zero => rfl
      | succ i => simpa using quietN_get (fl := fl) (i := i) (by omega)
    · omega
theorem notFree {fl : List Nat} {i : Nat} (h : i < quietN fl) : (frOf 0 fl).contains i = false := by
  cases hc : (frOf 0 fl).contains i with
  | false => rfl
  | true =>
    obtain ⟨_, h1⟩ := mem_frOf (List.contains_iff_mem.1 hc)
    rw [Nat.sub_zero, quietN_get h] at h1
    cases h1
theorem evH_ok (heq : ∀ p ∈ eqs, EqFact P E p.1 p.2) (ht : tab.OK P E) {W : World} {I : World → Prop} (hI : ∀ z g H, HR P E Bs F0.z.F w0 W z g H → F0.z.Le z → ∀ w', I w' → Keeps P E z g H W w') {R : Type} {r : R} {all : List Oper} {tl fr : List Nat} {Q : Exit → Act → World → Prop} {b : Ba E} {k : St E → Option R} {rest : List (Nat × Bool)}
    (hK : ∀ s' a', k s' = some r → Rel P E Bs F0 w0 N (s'.L b) (s'.H b) s'.nx a' W → wpMixI P all.toArray tl fr I Q rest a' W) : ∀ {hs : List Nat} {s : St E} {a : Act},
    evH P E eqs tab N b all fr hs s k = some r → Rel P E Bs F0 w0 N (s.L b) (s.H b) s.nx a W → wpMixI P all.toArray tl fr I Q (hOrd hs ++ rest) a W
  | [], s, a, h, hR => hK s a h hR
  | i :: hs, s, a, h, hR => by
    unfold evH at h
    split at h
    · cases h
    · rename_i o ho
      split at h
      · cases h
      · rename_i hgd
        obtain ⟨z, g, hE, hH, hfr, hz0, hg0⟩ := hR
        simp only [hOrd, List.cons_append]
        refine wpMixI_quiet o ho fun K hK' => ?_
        rw [if_pos (wanted_none hgd _)]
        split at h
        · rename_i hc
          rw [hc]
          obtain ⟨sv, v, up, g2, hk, hgl, hgn, hv, hrun, hup⟩ := qFree_ok (nx := s.nx) heq hE.op (hH.less (H' := fun _ => none) fun _ _ e => by cases e) h (fun _ => True)
          simp only at hk
          split at hk
          · cases hk
          · obtain rfl : g2 = g := hup
            split at hk
            · rename_i s1 hs1
              obtain ⟨hR1, _⟩ := after_ok (u := []) hs1 hE hH hz0 hg0 (fun j hj => hfr j (by simp only [List.length_nil] at hj; omega)) (fun sv' e => by obtain rfl := Option.some.inj e; exact hv)
              exact ⟨v, fun w' _ => by rw [hrun w' trivial]; exact ⟨rfl, rfl⟩, hK' _ (evH_ok heq ht hI hK hk hR1)⟩
            · cases hk
        · rename_i hc
          rw [hc]
          obtain ⟨sv, u, v, g2, hk, h2, h3, h4, h5, h6⟩ := evOpQ_ok heq ht hfr hE hH (hI z g _ hH hz0) h
          simp only at hk
          split at hk
          · rename_i s1 hs1
            obtain ⟨hR1, _⟩ := after_ok hs1 (hE.le (Fz.Le.refl z) h2) h3 hz0 (hg0.trans h2) h4 (fun sv' e => by obtain rfl := Option.some.inj e; exact h5)
            exact ⟨v, h6, hK' _ (evH_ok heq ht hI hK hk hR1)⟩
          · cases hk
theorem evB_ok (heq : ∀ p ∈ eqs, EqFact P E p.1 p.2) (ht : tab.OK P E) {fm : Bool} {I : World → Prop} (hIx : ∀ w w', I w → Ext w w' → I w') (hfm : fm = true → ∀ {L : Nat → Option (SV E)} {H : Nat → Option (Obj E)} {nx : Nat} {a : Act} {w : World}, Rel P E Bs F0 w0 N L H nx a w → I w) {R : Type} {r : R} {all : List Oper} {tl fr : List Nat} {Q : Exit → Act → World → Prop} {b : Ba E} {k : St E → Option R}
    (hK : ∀ s' a' w', k s' = some r → Rel P E Bs F0 w0 N (s'.L b) (s'.H b) s'.nx a' w' → Q .normal a' w') : ∀ {l : List (Nat × Oper × Nat)} {s : St E} {a : Act} {w : World},
    evB P E eqs tab N fm b l s k = some r → (∀ t ∈ l, all[t.1]? = some t.2.1 ∧ (t.2.2 = 2 → t.1 ∈ tl)) → Rel P E Bs F0 w0 N (s.L b) (s.H b) s.nx a w → wpMixI P all.toArray tl fr I Q (trOrd l) a w
  | [], s, a, w, h, _, hR => wpMixI_nil fun X d => hK s a _ h (hR.ext ⟨X, d, rfl⟩)
  | (i, o, f) :: l, s, a, w, h, hall, hR => by
    obtain ⟨ho, htl⟩ := hall _ (List.mem_cons_self ..)
    have hall' : ∀ t ∈ l, all[t.1]? = some t.2.1 ∧ (t.2.2 = 2 → t.1 ∈ tl) := fun t ht => hall t (List.mem_cons_of_mem _ ht)
    simp only at ho htl
    unfold evB at h
    split at h
    · cases h
    · rename_i hgd
      simp only [trOrd]
      split at h
      · rename_i hf0
        rw [hf0]
        obtain ⟨z, g, hE, hH, hfr, hz0, hg0⟩ := hR
        obtain ⟨sv, v, up, g2, hk, hgl, hgn, hv, hrun, hup⟩ := qFree_ok (nx := s.nx) heq hE.op (hH.less (H' := fun _ => none) fun _ _ e => by cases e) h (fun _ => True)
        simp only at hk
        split at hk
        · cases hk
        · obtain rfl : g2 = g := hup
          split at hk
          · rename_i s1 hs1
            obtain ⟨hR1, _⟩ := after_ok (u := []) hs1 hE hH hz0 hg0 (fun j hj => hfr j (by simp only [List.length_nil] at hj; omega)) (fun sv' e => by obtain rfl := Option.some.inj e; exact hv)
            refine wpMixI_quiet o ho fun K hK' => ?_
            rw [if_pos (wanted_none hgd _)]
            exact ⟨v, fun w' _ => by rw [hrun w' trivial]; exact ⟨rfl, rfl⟩, hK' _ (evB_ok heq ht hIx hfm hK hk hall' hR1)⟩
          · cases hk
      · rename_i hf0
        rw [hf0]
        split at h
        · cases h
        · rename_i hfl
          refine wpMixI_loud o ho fun K hK' X d => ?_
          have hx : Ext w (w.ext X d) := ⟨X, d, rfl⟩
          obtain ⟨z, g, hE, hH, hfr, hz0, hg0⟩ := hR.ext hx
          refine wpList_step fun K2 hK2 => ?_
          rw [if_pos (wanted_none hgd _)]
          refine evOp_ok2 heq ht hfr hE hH h fun v u x w' z2 g2 hk hz2 hg2 hE2 hH2 hf2 hv hmk => hK2 _ _ ?_
          split at hk
          · rename_i s1 hs1
            obtain ⟨hR1, _⟩ := after_ok hs1 hE2 hH2 (hz0.trans hz2) (hg0.trans hg2) hf2 hv
            show K _ _
            refine hK' _ _ (fun hc hw => ?_) (evB_ok heq ht hIx hfm hK hk hall' hR1)
            simp only [Bool.or_eq_true] at hfl
            rcases hfl with h1 | h1 | h1
            · obtain rfl := Nat.eq_of_beq_eq_true h1
              rw [List.contains_iff_mem.2 (htl rfl)] at hc
              cases hc
            · exact hfm h1 hR1
            · exact hIx _ _ (hIx _ _ hw hx) (hmk h1)
          · cases hk
theorem trOf_mem {hs : List Nat} : ∀ {l : List Oper} {fl : List Nat} {i : Nat} {t : Nat × Oper × Nat}, t ∈ trOf hs i l fl → ∃ k, t.1 = i + k ∧ l[k]? = some t.2.1 ∧ fl[k]? = some t.2.2
  | [], fl, i, t, h => by cases fl <;> simp [trOf] at h
  | o :: l, [], i, t, h => by simp [trOf] at h
  | o :: l, f :: fl, i, t, h => by
    have next : t ∈ trOf hs (i + 1) l fl → ∃ k, t.1 = i + k ∧ (o :: l)[k]? = some t.2.1 ∧ (f :: fl)[k]? = some t.2.2 := fun h => by
      obtain ⟨k, h1, h2, h3⟩ := trOf_mem h
      exact ⟨k + 1, by omega, by simpa using h2, by simpa using h3⟩
    simp only [trOf] at h
    split at h
    · exact next h
    · rcases List.mem_cons.1 h with rfl | h
      · exact ⟨0, rfl, rfl, rfl⟩
      · exact next h
theorem hideH_some {S : List Nat} {H : Nat → Option (Obj E)} {i : Nat} {o : Obj E} (h : hideH S H i = some o) : i ∉ S ∧ H i = some o := by
  unfold hideH at h
  split at h
  · cases h
  · rename_i hm
    exact ⟨fun hc => (by rw [memN_true.2 hc] at hm; cases hm), h⟩
theorem showH_some {S : List Nat} {H : Nat → Option (Obj E)} {i : Nat} {o : Obj E} (h : showH S H i = some o) : i ∈ S ∧ H i = some o ∧ ∃ T cs, o = .box T cs := by
  unfold showH at h
  split at h
  · rename_i hm
    split at h
    · rename_i T cs hi
      obtain rfl := Option.some.inj h
      exact ⟨memN_true.1 hm, hi, T, cs, rfl⟩
    · cases h
  · cases h
theorem boxesB_get {H : Nat → Option (Obj E)} {i : Nat} : ∀ {l : List Nat}, boxesB H l = true → i ∈ l → ∃ T cs, H i = some (.box T cs)
  | [], _, h => by cases h
  | j :: l, hb, h => by
    simp only [boxesB, Bool.and_eq_true] at hb
    rcases List.mem_cons.1 h with rfl | h
    · split at hb
      · rename_i T cs hi; exact ⟨T, cs, hi⟩
      · cases hb.1
    · exact boxesB_get hb.2 h
theorem HR.ga {z : Fz} {g g' : Ga} {w : World} {H : Nat → Option (Obj E)} {F : Nat → Prop} (h : HR P E Bs F w0 w z g H) (hg : g.Le g') : HR P E Bs F w0 w z g' H :=
  ⟨h.chg, fun id o e => (h.hold id o e).keep (Fz.Le.refl z) hg fun _ _ => rfl, fun id o k e hk => h.own id o k e ((fpO_le (h.hold id o e).loc hg).1 hk), fun id id' o o' k hn e e' hk hk' => h.apart id id' o o' k hn e e' ((fpO_le (h.hold id o e).loc hg).1 hk) ((fpO_le (h.hold id' o' e').loc hg).1 hk'), h.fz, h.fz0, fun id o k e hk => h.fza id o k e ((fpO_le (h.hold id o e).loc hg).1 hk)⟩
/-- Some objects alone, seen from the world as it is. -/
theorem HR.part {z : Fz} {g : Ga} {w : World} {H H' : Nat → Option (Obj E)} {F : Nat → Prop} (h : HR P E Bs F w0 w z g H) (hs : ∀ i o, H' i = some o → H i = some o) {B : List Nat} (hB : ∀ i o k, H' i = some o → fpO g i o k → k ∈ B) : HR P E B z.F w w z g H' :=
  ⟨Chg.of_below (Below.refl _ _), fun i o e => h.hold i o (hs i o e), fun i o k e hk => .inr (hB i o k e hk), fun i j o p k hn e e' => h.apart i j o p k hn (hs i o e) (hs j p e'), h.fz, fun _ hk => .inl hk, fun i o k e => h.fza i o k (hs i o e)⟩
theorem aget_append {α : Type} {t : Nat} : ∀ {l m : List (Nat × α)}, aget t (l ++ m) = match aget t l with | some v => some v | none => aget t m
  | [], m => rfl
  | (u, x) :: l, m => by
    simp only [List.cons_append, aget]
    cases Nat.beq t u with
    | true => rfl
    | false => exact aget_append
theorem upH_get {H : Nat → Option (Obj E)} {i : Nat} : ∀ {l : Chs E}, upH H l i = match aget i l with | some o => o | none => H i
  | [] => rfl
  | (k, o) :: l => by
    simp only [upH, aget]
    cases Nat.beq i k with
    | true => rfl
    | false => exact upH_get
theorem evDraw_ok (heq : ∀ p ∈ eqs, EqFact P E p.1 p.2) (ht : tab.OK P E) {R : Type} {l : List Oper} {fl hs S : List Nat} {fm : Bool} {id : Nat} {b : Ba E} {s : St E} {k : St E → Option R} {r : R} {a : Act} {w : World} {Q : Exit → Act → World → Prop} (h : evDraw P E eqs tab N l fl hs fm S b s k = some r) (hR : Rel P E Bs F0 w0 N (s.L b) (s.H b) s.nx a w)
    (hK : ∀ s' a' w', k s' = some r → Rel P E Bs F0 w0 N (s'.L b) (s'.H b) s'.nx a' w' → Q .normal a' w') : (Code.region id l.toArray true).wp P Q a w := by
  unfold evDraw at h
  split at h
  · cases h
  · rename_i hchk
    simp only [Bool.and_eq_true] at hchk
    obtain ⟨hm, hB⟩ := hchk
    have hmem : ∀ t ∈ trOf hs (quietN fl) (l.drop (quietN fl)) (fl.drop (quietN fl)), l[t.1]? = some t.2.1 ∧ (t.2.2 = 2 → t.1 ∈ tlOf 0 fl) := fun t hmem => by
      obtain ⟨k, h5, h6, h7⟩ := trOf_mem hmem
      rw [List.getElem?_drop] at h6 h7
      rw [← h5] at h6 h7
      refine ⟨h6, fun hf => ?_⟩
      rw [hf] at h7
      have := mem_tlOf (n := 0) h7
      rwa [Nat.zero_add] at this
    split at h
    · have hIx : ∀ w1 w', Ext w w1 → Ext w1 w' → Ext w w' := fun _ _ h1 h2 => h1.trans h2
      have hI : ∀ z g H, HR P E Bs F0.z.F w0 w z g H → F0.z.Le z → ∀ w', Ext w w' → Keeps P E z g H w w' := fun z g H h1 _ w' h2 => Keeps.of_ext h1 h2
      refine wp_region_mixI (I := Ext w) hIx _ _ _ hm hB (Ext.refl w) ?_
      have := evList_ok (quietWalk heq ht l (tlOf 0 fl) (frOf 0 fl) (quietN fl) (fun _ h => notFree h) w (Ext w) hI Q) _ (tl := l.drop (quietN fl)) (J := fun a' w' => w' = w → wpMixI P l.toArray (tlOf 0 fl) (frOf 0 fl) (Ext w) Q (hOrd hs ++ trOrd (trOf hs (quietN fl) (l.drop (quietN fl)) (fl.drop (quietN fl)))) a' w) h (by simp) hR trivial fun s' a' w' h1 h2 _ hw => by
        subst hw
        exact evH_ok heq ht hI (fun s2 a2 h3 h4 => evB_ok heq ht hIx (fun e => by cases e) hK h3 hmem h4) h1 h2
      exact this rfl (by rw [Nat.zero_add]; exact List.length_take_le _ _) _ fun a' h1 => h1 rfl
    · obtain ⟨z, g, hE, hH, hfr, hz0, hg0⟩ := hR
      -- the footprints of what is read, and of what is turned
      let B1 : List Nat := ((List.range s.nx).map (blk (hideH S (s.H b)) g)).flatten
      let B2 : List Nat := (S.map (blk (showH S (s.H b)) g)).flatten
      have hlt : ∀ i o, s.H b i = some o → i < s.nx := fun i o e => by
        obtain ⟨l', hl⟩ := (hH.hold i o e).loc
        rcases Nat.lt_or_ge i s.nx with h5 | h5
        · exact h5
        · rw [hfr i h5] at hl; cases hl
      have hB1 : ∀ i o k, hideH S (s.H b) i = some o → fpO g i o k → k ∈ B1 := fun i o k e hk => List.mem_flatten.2 ⟨_, List.mem_map.2 ⟨i, List.mem_range.2 (hlt i o (hideH_some e).2), rfl⟩, mem_blk.2 ⟨o, e, hk⟩⟩
      have hB2 : ∀ i o k, showH S (s.H b) i = some o → fpO g i o k → k ∈ B2 := fun i o k e hk => List.mem_flatten.2 ⟨_, List.mem_map.2 ⟨i, (showH_some e).1, rfl⟩, mem_blk.2 ⟨o, e, hk⟩⟩
      have hB1' : ∀ k, k ∈ B1 → ∃ i o, hideH S (s.H b) i = some o ∧ fpO g i o k := fun k hk => by
        obtain ⟨_, i, o, _, h5, h6⟩ := mem_blks hk
        exact ⟨i, o, h5, h6⟩
      have hB2' : ∀ k, k ∈ B2 → ∃ i o, showH S (s.H b) i = some o ∧ fpO g i o k := fun k hk => by
        obtain ⟨_, i, o, _, h5, h6⟩ := mem_blks hk
        exact ⟨i, o, h5, h6⟩
      have hB12 : ∀ k, k ∈ B1 → k ∉ B2 := fun k h1 h2 => by
        obtain ⟨i, o, h3, h4⟩ := hB1' k h1
        obtain ⟨j, p, h5, h6⟩ := hB2' k h2
        exact hH.apart i j o p k (fun e => (hideH_some h3).1 (e ▸ (showH_some h5).1)) (hideH_some h3).2 (showH_some h5).2.1 h4 h6
      have hB1w : ∀ k, k ∈ B1 → k < w.heap.size := fun k hk => by
        obtain ⟨i, o, h3, h4⟩ := hB1' k hk
        exact (hH.hold i o (hideH_some h3).2).lt h4
      have hq := hH.part (fun i o e => (hideH_some e).2) hB1
      let F1 : Org := ⟨z, g, F0.lo⟩
      let I : World → Prop := fun w' => z.In w' ∧ ∀ k, k ∈ B1 → w'.heap[k]? = w.heap[k]?
      have hIx : ∀ w1 w', I w1 → Ext w1 w' → I w' := fun w1 w' h1 h2 => ⟨h1.1.ext h2, fun k hk => by
        have h3 := h1.2 k hk
        have h4 : k < w1.heap.size := by
          rcases Nat.lt_or_ge k w1.heap.size with h5 | h5
          · exact h5
          · rw [Array.getElem?_eq_none h5, Array.getElem?_eq_getElem (hB1w k hk)] at h3; cases h3
        exact (h2.below.block k h4).trans h3⟩
      have hI : ∀ z2 g2 H2, HR P E B1 F1.z.F w w z2 g2 H2 → F1.z.Le z2 → ∀ w', I w' → Keeps P E z2 g2 H2 w w' := fun z2 g2 H2 h1 hle w' hw' => by
        have hfp : ∀ i o k, H2 i = some o → fpO g2 i o k → k ∈ B1 := fun i o k e hk => by
          rcases h1.own i o k e hk with h3 | h3
          · have := (h1.hold i o e).lt hk
            omega
          · exact h3
        have hin : z2.In w' := fun k hk => by
          rcases h1.fz0 k hk with h3 | h3 | h3
          · have h4 := hw'.1 k h3
            exact ⟨h4.1, h4.2.trans (hle k h3).2.symm⟩
          · have := (h1.fz k hk).1
            omega
          · have h4 := hw'.2 k h3
            refine ⟨?_, h4.trans (h1.fz k hk).2⟩
            rcases Nat.lt_or_ge k w'.heap.size with h5 | h5
            · exact h5
            · rw [Array.getElem?_eq_none h5, Array.getElem?_eq_getElem (hB1w k h3)] at h4; cases h4
        refine ⟨⟨hin, fun i o k e hk => hw'.2 k (hfp i o k e hk)⟩, B1, z2.F, w', ⟨Chg.of_below (Below.refl _ _), fun i o e => (h1.hold i o e).keep (Fz.Le.refl z2) (Ga.Le.refl g2) fun k hk => hw'.2 k (hfp i o k e hk), fun i o k e hk => .inr (hfp i o k e hk), h1.apart, hin, fun k hk => .inl hk, h1.fza⟩⟩
      refine wp_region_mixI (I := I) hIx _ _ _ hm hB ⟨hH.fz, fun _ _ => rfl⟩ ?_
      have hR0 : Rel P E B1 F1 w N ((St.new s.nx : St E).L ⟨s.L b, hideH S (s.H b), b.lo⟩) ((St.new s.nx : St E).H ⟨s.L b, hideH S (s.H b), b.lo⟩) s.nx a w := ⟨z, g, hE, hq, hfr, Fz.Le.refl z, Ga.Le.refl g⟩
      have := evList_ok (quietWalk (F0 := F1) (w0 := w) (Bs := B1) heq ht l (tlOf 0 fl) (frOf 0 fl) (quietN fl) (fun _ h => notFree h) w I hI Q) _ (tl := l.drop (quietN fl)) (J := fun a' w' => w' = w → wpMixI P l.toArray (tlOf 0 fl) (frOf 0 fl) I Q (hOrd hs ++ trOrd (trOf hs (quietN fl) (l.drop (quietN fl)) (fl.drop (quietN fl)))) a' w) h (by simp) hR0 trivial fun s' a' w' h1 h2 _ hw => by
        subst hw
        refine evH_ok (F0 := F1) (w0 := w') (Bs := B1) heq ht hI (fun s2 a2 h3 h4 => ?_) h1 h2
        split at h3
        · rename_i hvis hhvis hheap
          obtain ⟨z2, g2, hE2, hH2, hfr2, hz2, hg2⟩ := h4
          have hHq : St.H ⟨s.L b, hideH S (s.H b), b.lo⟩ s2 = hideH S (s.H b) := by
            unfold St.H
            rw [hheap, hhvis]
            rfl
          rw [hHq] at hH2
          have hz21 : z2.Le z := fun k hk => by
            have h5 : z.F k := by
              rcases hH2.fz0 k hk with h6 | h6 | h6
              · exact h6
              · have := (hH2.fz k hk).1
                omega
              · obtain ⟨i, o, h7, h8⟩ := hB1' k h6
                exact (hH2.fza i o k h7 ((fpO_le (hH.hold i o (hideH_some h7).2).loc hg2).2 h8) hk).elim
            exact ⟨h5, (hz2 k h5).2.symm⟩
          have hs2 : HR P E B2 z.F w' w' z g2 (showH S (s.H b)) := (hH.part (fun i o e => (showH_some e).2.1) hB2).ga hg2
          have hR2 : Rel P E B2 ⟨z, g, F0.lo⟩ w' N ((St.new s2.nx : St E).L ⟨s2.L ⟨s.L b, hideH S (s.H b), b.lo⟩, showH S (s.H b), b.lo⟩) ((St.new s2.nx : St E).H ⟨s2.L ⟨s.L b, hideH S (s.H b), b.lo⟩, showH S (s.H b), b.lo⟩) s2.nx a2 w' := ⟨z, g2, hE2.le hz21 (Ga.Le.refl g2), hs2, hfr2, Fz.Le.refl z, hg2⟩
          refine evB_ok (F0 := ⟨z, g, F0.lo⟩) (Bs := B2) (w0 := w') heq ht hIx (fun _ {L H nx a w1} h5 => ⟨h5.inz, fun k hk => ?_⟩) (fun s3 a3 w3 h5 h6 => ?_) h3 hmem hR2
          · obtain ⟨_, _, _, h6, _⟩ := h5
            exact h6.chg.block k (hB1w k hk) (hB12 k hk)
          · split at h5
            · rename_i hv3 hh3 hbx
              refine hK _ a3 w3 h5 ?_
              obtain ⟨z3, g3, hE3, hH3, hfr3, hz3, hg3⟩ := h6
              have hH3e : St.H ⟨s2.L ⟨s.L b, hideH S (s.H b), b.lo⟩, showH S (s.H b), b.lo⟩ s3 = upH (showH S (s.H b)) s3.heap := by
                unfold St.H
                rw [hh3]
                rfl
              rw [hH3e] at hH3
              have hHe : St.H b { s with env := s3.env ++ (s2.env ++ s.env), heap := s3.heap ++ s.heap, nx := s3.nx } = upH (s.H b) s3.heap := by
                unfold St.H
                rw [upH_append]
              refine ⟨z3, g3, hE3.less fun t u hu => ?_, ?_, hfr3, hz0.trans hz3, hg0.trans hg3⟩
              · simp only [St.L] at hu ⊢
                rw [aget_append, aget_append] at hu
                simp only [hv3, hvis, seen]
                cases e3 : aget t s3.env with
                | some v => rw [e3] at hu; exact hu
                | none =>
                  rw [e3] at hu
                  simp only at hu ⊢
                  cases e2 : aget t s2.env with
                  | some v => rw [e2] at hu; exact hu
                  | none => rw [e2] at hu; exact hu
              · rw [hHe]
                refine hH.back (I := S) (s := fun j i => j = i) hH3 (fun k hk => ?_) hg3 (fun j o hj => ?_) (fun j j' i h7 h8 => h7.trans h8.symm) (fun j i o h7 h8 => by subst h7; exact ⟨hH3.hold _ _ h8, fun _ => Iff.rfl⟩) hz3 hH3.fz fun k hk => ?_
                · obtain ⟨i, o, h7, h8⟩ := hB2' k hk
                  exact ⟨i, o, (showH_some h7).1, (showH_some h7).2.1, h8⟩
                · by_cases hjS : j ∈ S
                  · obtain ⟨T, cs, h7⟩ := boxesB_get hbx hjS
                    refine .inl ⟨j, rfl, ?_⟩
                    rw [upH_get] at h7 hj ⊢
                    cases e4 : aget j s3.heap with
                    | some v => rw [e4] at hj; exact hj
                    | none =>
                      rw [e4] at h7 hj
                      simp only at h7 hj ⊢
                      have := (showH_some h7).2.1
                      rw [this] at hj
                      obtain rfl := Option.some.inj hj
                      exact h7
                  · rw [upH_get] at hj
                    cases e4 : aget j s3.heap with
                    | some v =>
                      rw [e4] at hj
                      refine .inl ⟨j, rfl, ?_⟩
                      rw [upH_get, e4]
                      exact hj
                    | none =>
                      rw [e4] at hj
                      exact .inr ⟨hjS, hj⟩
                · rcases hH3.fz0 k hk with h7 | h7 | h7
                  · exact .inl h7
                  · exact .inr ⟨.inl h7, hk⟩
                  · exfalso
                    obtain ⟨i, o, h8, h9⟩ := hB2' k h7
                    obtain ⟨hiS, hio, T, cs, rfl⟩ := showH_some h8
                    obtain ⟨T', cs', h10⟩ := boxesB_get hbx hiS
                    obtain ⟨l', h11, h12⟩ := h9
                    exact hH3.fza i _ k h10 ⟨l', hg3 _ _ h11, h12⟩ hk
            · cases h5
        · cases h3
      exact this rfl (by rw [Nat.zero_add]; exact List.length_take_le _ _) _ fun a' h1 => h1 rfl
end Rt
end Go
