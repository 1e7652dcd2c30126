import Derived.Test.YtboplmpnjepdnaaGreatSc
/-
  The second engine: the memory behind a meeting, and the whole of a meeting. No program in sight.
-/
namespace Go
namespace Rt
open Go.RowKit

section
variable {P : Program} {E : TE} {z : Fz} {g g' : Ga} {w w0 : World} {Bs : List Nat} {F0 : Nat → Prop} {N : Nat}
/-! ### Objects -/
theorem focK_ok {L : Nat → Option (SV E)} {R : Type} {t : Ty} {xs : List (Den E.S t)} {r : R} : ∀ {fs : List (Nat × Nat)} {k : List (Nat × Int × Den E.S t) → Option R}, focK L xs fs k = some r →
    ∃ l, k l = some r ∧ ∀ p ∈ l, ∃ sl id off, (p.1, sl) ∈ fs ∧ L sl = some (.v (.one (.elo id p.1 p.2.1 off))) ∧ getI xs p.2.1 = some p.2.2
  | [], k, h => ⟨[], h, fun _ hp => nomatch hp⟩
  | (q, sl) :: fs, k, h => by
    unfold focK at h
    split at h
    · rename_i id q' i off hL
      split at h
      · rename_i hb
        obtain rfl := Nat.eq_of_beq_eq_true hb
        obtain ⟨y, hy, h⟩ := bind_some h
        obtain ⟨l, h1, h2⟩ := focK_ok h
        refine ⟨_, h1, fun p hp => ?_⟩
        rcases List.mem_cons.1 hp with rfl | hp
        · exact ⟨sl, id, off, List.mem_cons_self .., hL, hy⟩
        · obtain ⟨sl', id', off', h3, h4⟩ := h2 p hp
          exact ⟨sl', id', off', List.mem_cons_of_mem _ h3, h4⟩
      · cases h
    · cases h
def focB (o : Obj E) (keep gkeep : List Nat) (fs : List (Nat × Nat)) : Bool := match o with
  | .row _ _ _ foc => fs.all fun f => (foc.any fun p => Nat.beq p.1 f.1) && (memN f.2 keep && memN f.1 gkeep)
  | _ => false
theorem obj_meet {H : Nat → Option (Obj E)} {L : Nat → Option (SV E)} {R : Type} {k : Obj E → Option R} {r : R} (hH : HR P E Bs F0 w0 w z g H) {bs : Bd} (hB : Bound g g' bs) {keep gkeep : List Nat} (hgk : ∀ i, memN i gkeep = true → g' i = g i)
    (hk : ∀ sl id q i off, memN sl keep = true → L sl = some (.v (.one (.elo id q i off))) → ∃ l, g q = some l ∧ l.ix = i) {p : OP} {o : Obj E} {h : HL E.S p.T} {i id : Nat} (hi : g' i = g id) (h1 : leafO H p o = some h) (h2 : newO L p h k = some r)
    (hf : ∀ e t fs, p = .row e t fs → focB o keep gkeep fs = true) (hc : ∀ T ps, p = .cells T ps → ∀ T' cs, o = .box T' cs → ∃ a b, bindC ps cs a = some b ∧ Bd.Le b bs) :
    ∃ o', k o' = some r ∧ (ObjR P E z g w id o → ObjR P E z g' w i o') ∧ ∀ q, fpO g' i o' q → fpO g id o q := by
  cases p with
  | box T t =>
    cases o with
    | box T' cs =>
      obtain ⟨hT, hq1⟩ := onlyIf_some (show onlyIf (Nat.beq T T') (unitO ((dataL E H (E.flat t) cs).map (E.ufl t))) = some h from h1)
      obtain rfl := Nat.eq_of_beq_eq_true hT
      have h3 := unitO_some hq1
      cases hd : dataL E H (E.flat t) cs with
      | none => rw [hd] at h3; cases h3
      | some d =>
        rw [hd] at h3
        have h4 : E.ufl t d = h.1 := Option.some.inj h3
        refine ⟨_, h2, fun ho => ?_, fun q hq => ?_⟩
        · obtain ⟨l, vs, h5, h6, h7⟩ := ho
          refine ⟨l, vs, by rw [hi]; exact h5, h6, ?_⟩
          have h8 := dataL_ok hH hd h7
          have h9 : d = E.fl t h.1 := by rw [← h4, E.fl_ufl]
          rw [h9] at h8
          exact cells_rd.1 h8
        · obtain ⟨l, h5, h6⟩ := hq
          exact ⟨l, by rw [← hi]; exact h5, h6⟩
    | _ => simp [leafO] at h1
  | cells T ps =>
    cases o with
    | box T' cs =>
      obtain ⟨a, b, h3, h4⟩ := hc T ps rfl T' cs rfl
      obtain ⟨hT, hq1⟩ := onlyIf_some (show onlyIf (Nat.beq T T') (leafC H ps cs) = some h from h1)
      obtain rfl := Nat.eq_of_beq_eq_true hT
      refine ⟨_, h2, fun ho => ?_, fun q hq => ?_⟩
      · obtain ⟨l, vs, h5, h6, h7⟩ := ho
        exact ⟨l, vs, by rw [hi]; exact h5, h6, cells_meet hH hB ps cs a b h vs h3 h4 hq1 h7⟩
      · obtain ⟨l, h5, h6⟩ := hq
        exact ⟨l, by rw [← hi]; exact h5, h6⟩
    | _ => simp [leafO] at h1
  | row e t fs =>
    cases o with
    | row e' t' xs foc =>
      obtain ⟨he, hq1⟩ := onlyIf_some (show onlyIf (Nat.beq e e') (unitO (castO t xs)) = some h from h1)
      obtain rfl := Nat.eq_of_beq_eq_true he
      obtain ⟨ht, hxs⟩ := castO_some (unitO_some hq1)
      subst ht
      have hxs : h.1 = xs := hxs
      obtain ⟨l, h3, h4⟩ := focK_ok (show focK L h.1 fs (fun l => k (.row e t' h.1 l)) = some r from h2)
      refine ⟨_, h3, fun ho => ?_, fun q hq => ?_⟩
      · obtain ⟨lo, rows, h5, hn, hcc, h6, h7, h8, h9', h10⟩ := ho
        rw [← hxs] at hn h9'
        refine ⟨lo, rows, by rw [hi]; exact h5, hn, hcc, h6, h7, h8, h9', fun p hp => ?_⟩
        obtain ⟨sl, id', off, h11, h12, h13⟩ := h4 p hp
        refine ⟨h13, ?_⟩
        have hf' := hf e t' fs rfl
        have hf2 := List.all_eq_true.1 hf' _ h11
        simp only [Bool.and_eq_true, List.any_eq_true] at hf2
        obtain ⟨⟨p0, hp0, hb⟩, hk1, hk2⟩ := hf2
        have hq := Nat.eq_of_beq_eq_true hb
        obtain ⟨_, lq, oo, h14, h15, h16, h17⟩ := h10 p0 hp0
        obtain ⟨l2, h18, h19⟩ := hk _ _ _ _ _ hk1 h12
        rw [hq, h18] at h14
        obtain rfl := Option.some.inj h14
        have hix : p0.2.1 = p.2.1 := by rw [← h17, h19]
        exact ⟨l2, oo, by rw [hgk _ hk2]; exact h18, h15, by rw [← hix]; exact h16, h19⟩
      · obtain ⟨l, a, h5, h6⟩ := hq
        exact ⟨l, a, by rw [← hi]; exact h5, h6⟩
    | _ => simp [leafO] at h1
  | map T kt vt =>
    cases o with
    | map T' kt' vt' ks vs foc =>
      obtain ⟨hT, hq1⟩ := onlyIf_some (show onlyIf (Nat.beq T T') (pairO (castO kt ks) (unitO (castO vt vs))) = some h from h1)
      obtain rfl := Nat.eq_of_beq_eq_true hT
      obtain ⟨hk1, hv1⟩ := pairO_some hq1
      obtain ⟨ht1, hks⟩ := castO_some hk1
      obtain ⟨ht2, hvs⟩ := castO_some (unitO_some hv1)
      subst ht1; subst ht2
      have hks : h.1 = ks := hks
      have hvs : h.2.1 = vs := hvs
      refine ⟨_, h2, fun ho => ?_, fun q hq => ?_⟩
      · obtain ⟨l, es, c, h5, h6, h7, _⟩ := ho
        refine ⟨l, es, c, by rw [hi]; exact h5, h6, ?_, fun p hp => nomatch hp⟩
        rw [hks, hvs]; exact h7
      · obtain ⟨l, h5, h6⟩ := hq
        exact ⟨l, by rw [← hi]; exact h5, h6⟩
    | _ => simp [leafO] at h1
theorem bindO_cons {H : Nat → Option (Obj E)} {j : Nat} {sf : Bool} {p : OP} {l : List (Nat × Bool × OP)} {a b : Bd} (h : bindO H ((j, sf, p) :: l) a = some b) :
    ∃ a1 a2, Bd.Le a a1 ∧ Bd.Le a1 a2 ∧ (sf = true → aget j a1 = some j) ∧ bindO H l a2 = some b ∧ ∀ T ps, p = .cells T ps → ∃ id T' cs, aget j a1 = some id ∧ H id = some (.box T' cs) ∧ bindC ps cs a1 = some a2 := by
  have first : ∃ a1, selfB sf j a = some a1 ∧ Bd.Le a a1 ∧ (sf = true → aget j a1 = some j) := by
    cases sf with
    | false => exact ⟨a, rfl, Bd.Le.refl a, fun e => nomatch e⟩
    | true =>
      cases ha : addB j j a with
      | none =>
        unfold bindO selfB at h
        simp only [ha] at h
        cases h
      | some a1 => exact ⟨a1, ha, (addB_ok ha).1, fun _ => (addB_ok ha).2⟩
  obtain ⟨a1, h1, h2, h3⟩ := first
  unfold bindO at h
  rw [h1] at h
  simp only at h
  cases p with
  | box T t => exact ⟨a1, a1, h2, Bd.Le.refl a1, h3, h, fun _ _ e => nomatch e⟩
  | row e t fs => exact ⟨a1, a1, h2, Bd.Le.refl a1, h3, h, fun _ _ e => nomatch e⟩
  | map T k v => exact ⟨a1, a1, h2, Bd.Le.refl a1, h3, h, fun _ _ e => nomatch e⟩
  | cells T ps =>
    simp only at h
    cases hj : aget j a1 with
    | none => simp only [hj] at h; cases h
    | some id =>
      simp only [hj] at h
      cases ho : H id with
      | none => simp only [ho] at h; cases h
      | some o =>
        cases o with
        | box T' cs =>
          simp only [ho] at h
          cases hb : bindC ps cs a1 with
          | none => simp only [hb] at h; cases h
          | some a2 =>
            simp only [hb] at h
            exact ⟨a1, a2, h2, bindC_le hb, h3, h, fun T2 ps2 e => by injection e with e1 e2; subst e2; exact ⟨id, T', cs, hj, ho, hb⟩⟩
        | _ => simp only [ho] at h; cases h
theorem bindO_le {H : Nat → Option (Obj E)} : ∀ {l : List (Nat × Bool × OP)} {a b : Bd}, bindO H l a = some b → Bd.Le a b ∧ ∀ j, j ∈ selfs l → aget j b = some j
  | [], a, b, h => by obtain rfl := Option.some.inj h; exact ⟨Bd.Le.refl _, fun _ hj => nomatch hj⟩
  | (j, sf, p) :: l, a, b, h => by
    obtain ⟨a1, a2, h1, h2, h3, h4, _⟩ := bindO_cons h
    obtain ⟨h5, h6⟩ := bindO_le h4
    refine ⟨(h1.trans h2).trans h5, fun i hi => ?_⟩
    cases sf with
    | false => exact h6 i hi
    | true =>
      rcases List.mem_cons.1 hi with rfl | hi
      · exact (h2.trans h5) _ _ (h3 rfl)
      · exact h6 i hi
theorem leafOs_cons {H : Nat → Option (Obj E)} {bs : Bd} {j : Nat} {sf : Bool} {p : OP} {l : List (Nat × Bool × OP)} {h : HL E.S (objsT ((j, sf, p) :: l))} (e : leafOs H bs ((j, sf, p) :: l) = some h) :
    ∃ id o h1 h2, aget j bs = some id ∧ H id = some o ∧ leafO H p o = some h1 ∧ leafOs H bs l = some h2 ∧ h = hap h1 h2 := by
  unfold leafOs at e
  cases hj : aget j bs with
  | none => rw [hj] at e; cases e
  | some id =>
    rw [hj] at e
    cases ho : H id with
    | none => simp only [ho] at e; cases e
    | some o =>
      simp only [ho] at e
      obtain ⟨a, b, h1, h2, h3⟩ := hapO_some e
      exact ⟨id, o, a, b, rfl, ho, h1, h2, h3⟩
theorem objs_meet {H : Nat → Option (Obj E)} {L : Nat → Option (SV E)} {R : Type} {r : R} (hH : HR P E Bs F0 w0 w z g H) {bs : Bd} (hB : Bound g g' bs) {keep gkeep : List Nat} (hgk : ∀ i, memN i gkeep = true → g' i = g i)
    (hk : ∀ sl id q i off, memN sl keep = true → L sl = some (.v (.one (.elo id q i off))) → ∃ l, g q = some l ∧ l.ix = i) : ∀ (l : List (Nat × Bool × OP)) (a b : Bd) (h : HL E.S (objsT l)) (k : Chs E → Option R),
    bindO H l a = some b → Bd.Le b bs → leafOs H bs l = some h → focOK H bs keep gkeep l = true → newOs L l h k = some r →
    ∃ u, k u = some r ∧ ∀ i o', (i, o') ∈ u → ∃ id o p, aget i bs = some id ∧ H id = some o ∧ o' = some p ∧ (ObjR P E z g w id o → ObjR P E z g' w i p) ∧ ∀ q, fpO g' i p q → fpO g id o q := by
  intro l
  induction l with
  | nil => intro a b h k _ _ _ _ h5; exact ⟨[], h5, fun _ _ hm => nomatch hm⟩
  | cons q l ih =>
    obtain ⟨j, sf, p⟩ := q
    intro a b h k h1 h2 h3 h4 h5
    obtain ⟨id, o, y1, y2, hj, ho, hl1, hl2, rfl⟩ := leafOs_cons h3
    obtain ⟨a1, a2, ha1, ha2, _, hb, hcell⟩ := bindO_cons h1
    have h6 : newO L p (hfst p.T (objsT l) (hap y1 y2)) (fun o => newOs L l (hsnd p.T (objsT l) (hap y1 y2)) fun u => k ((j, some o) :: u)) = some r := h5
    rw [hfst_hap, hsnd_hap] at h6
    have hfoc : focOK H bs keep gkeep l = true ∧ ∀ e t fs, p = .row e t fs → focB o keep gkeep fs = true := by
      cases p with
      | row e t fs =>
        unfold focOK at h4
        simp only [hj, ho, Bool.and_eq_true] at h4
        refine ⟨h4.2, fun e2 t2 fs2 he => ?_⟩
        injection he with _ _ he
        subst he
        unfold focB
        cases o <;> first | exact h4.1 | cases h4.1
      | _ => exact ⟨h4, fun _ _ _ he => nomatch he⟩
    have hle2 : Bd.Le a2 bs := (bindO_le hb).1.trans h2
    obtain ⟨o', h7, h8, h9⟩ := obj_meet hH hB hgk hk (hB j id hj) hl1 h6 hfoc.2 fun T ps hp T' cs hcs => by
      obtain ⟨id2, T2, cs2, h10, h11, h12⟩ := hcell T ps hp
      have h13 := hle2 _ _ (ha2 _ _ h10)
      rw [hj] at h13
      obtain rfl := Option.some.inj h13
      rw [ho, hcs] at h11
      injection h11 with h11
      injection h11 with _ h11
      subst h11
      exact ⟨a1, a2, h12, hle2⟩
    obtain ⟨u, h10, h11⟩ := ih a2 b y2 _ hb h2 hl2 hfoc.1 h7
    refine ⟨_, h10, fun i o2 hm => ?_⟩
    rcases List.mem_cons.1 hm with he | hm
    · injection he with e1 e2
      subst e1; subst e2
      exact ⟨id, o, o', hj, ho, rfl, h8, h9⟩
    · exact h11 i o2 hm
/-! ### Getting ready -/
theorem St.L_cons {b : Ba E} {s : St E} {t t' : Nat} {v : Option (SV E)} : St.L b { s with env := (t, v) :: s.env } t' = if t' = t then v else s.L b t' := by
  unfold St.L
  simp only [aget]
  by_cases h : t' = t
  · subst h
    have : Nat.beq t' t' = true := by simp
    rw [this, if_pos rfl]
  · have : Nat.beq t' t = false := by
      cases hb : Nat.beq t' t with
      | false => rfl
      | true => exact absurd (Nat.eq_of_beq_eq_true hb) h
    rw [this, if_neg h]
/-- What getting cells ready comes to. -/
def PrepIs (P : Program) (E : TE) (Bs : List Nat) (F0 : Nat → Prop) (w0 w : World) (z : Fz) (g : Ga) (H : Nat → Option (Obj E)) (ps : List (Option (TypeId × Ty))) (cs : List (SC E)) (n : Nat) : Prop :=
  ∃ l u m g', (∀ {α : Type} (k : List (SC E) → Chs E → Nat → α), prepW ps cs n k = k l u m) ∧ g.Le g' ∧ Fresh g' m ∧ HR P E Bs F0 w0 w z g' (upH H u) ∧ (∀ z g2 vs, g'.Le g2 → All2 (RC P E z g2) cs vs → All2 (RC P E z g2) l vs) ∧ (∀ i o, (i, o) ∈ u → n ≤ i) ∧ n ≤ m
theorem PrepIs.step {z : Fz} {g : Ga} {H : Nat → Option (Obj E)} {p : Option (TypeId × Ty)} {ps : List (Option (TypeId × Ty))} {c : SC E} {cs : List (SC E)} {n : Nat} (h : PrepIs P E Bs F0 w0 w z g H ps cs n) (he : ∀ {α : Type} (k : List (SC E) → Chs E → Nat → α), prepW (p :: ps) (c :: cs) n k = prepW ps cs n fun l u m => k (c :: l) u m) :
    PrepIs P E Bs F0 w0 w z g H (p :: ps) (c :: cs) n := by
  obtain ⟨l, u, m, g', h1, h2, h3, h4, h5, h6, h7⟩ := h
  exact ⟨c :: l, u, m, g', (fun k => (he k).trans (h1 _)), h2, h3, h4, (fun z g2 vs hg hv => by
    cases hv with
    | cons hx hr => exact .cons hx (h5 z g2 _ hg hr)), h6, h7⟩
theorem prepW_ok {z : Fz} : ∀ (ps : List (Option (TypeId × Ty))) (cs : List (SC E)) {n : Nat} {g : Ga} {H : Nat → Option (Obj E)}, HR P E Bs F0 w0 w z g H → Fresh g n → PrepIs P E Bs F0 w0 w z g H ps cs n
  | [], cs, n, g, H, hH, hf => ⟨cs, [], n, g, (fun _ => by cases cs <;> rfl), Ga.Le.refl g, hf, hH, (fun _ _ _ _ h => h), (fun _ _ h => nomatch h), Nat.le_refl _⟩
  | p :: ps, [], n, g, H, hH, hf => ⟨[], [], n, g, (fun _ => by cases p <;> rfl), Ga.Le.refl g, hf, hH, (fun _ _ _ _ h => h), (fun _ _ h => nomatch h), Nat.le_refl _⟩
  | p :: ps, c :: cs, n, g, H, hH, hf => by
    have ih := prepW_ok ps cs hH hf
    cases p with
    | none => exact ih.step fun k => by cases c <;> rfl
    | some q =>
      obtain ⟨e, ty⟩ := q
      cases c with
      | nils =>
        have hnew := hH.row_new (e := e) (t := ty) (xs := []) (A := none) (cap := 0) (n := 0) (rows := []) hf (Ext.refl w) rfl ⟨by simp, .inl ⟨rfl, rfl⟩⟩ rfl (fun i x r h1 _ => by simp at h1) (fun q ⟨a, ha, _⟩ => nomatch ha)
        obtain ⟨l, u, m, g', h1, h2, h3, h4, h5, h6, h7⟩ := prepW_ok ps cs hnew (hf.put _)
        refine ⟨.own n :: l, u ++ [(n, some (.row e ty [] []))], m, g', (fun k => ?_), (Ga.le_put hf.self).trans h2, h3, by rw [← upH_append]; exact h4, (fun z g2 vs hg hv => ?_), (fun i o ho => ?_), by omega⟩
        · simp only [prepW]
          exact h1 _
        · cases hv with
          | cons hx hr => exact .cons ⟨_, hg _ _ (h2 _ _ (Ga.put_self _ _ _)), hx⟩ (h5 z g2 _ hg hr)
        · rcases List.mem_append.1 ho with ho | ho
          · have := h6 i o ho; omega
          · obtain ⟨rfl, _⟩ := Prod.mk.inj (List.mem_singleton.1 ho); exact Nat.le_refl _
      | _ => exact ih.step fun k => rfl
theorem prepS_ok {F0 : Org} {b : Ba E} {s : St E} {objs : List (Nat × Bool × OP)} {p : Nat × VP} {a : Act} (h : Rel P E Bs F0 w0 N (s.L b) (s.H b) s.nx a w) : Rel P E Bs F0 w0 N ((prepS b s objs p).L b) ((prepS b s objs p).H b) (prepS b s objs p).nx a w := by
  unfold prepS
  split
  · rename_i t j
    split
    · rename_i e ty hL hrow
      obtain ⟨z, g, hE, hH, hf, hz0, hg0⟩ := h
      refine ⟨z, g.put s.nx ⟨none, 0, 0, E.size ty, 0, 0⟩, ⟨hE.size, hE.defers, fun t' u hu => ?_⟩, ?_, hf.put _, hz0, hg0.trans (Ga.le_put hf.self)⟩
      · have hu' : (if t' = t then some (SV.v (.one (.own s.nx))) else s.L b t') = some u := by rw [← hu]; exact (St.L_cons (s := { s with heap := (s.nx, some (.row e ty [] [])) :: s.heap, nx := s.nx + 1 })).symm
        split at hu'
        · rename_i ht
          subst ht
          obtain rfl := Option.some.inj hu'
          obtain ⟨v, h1, h2⟩ := hE.get _ _ hL
          have h3 : v = .slice none 0 0 := h2
          exact ⟨v, h1, _, Ga.put_self _ _ _, h3⟩
        · obtain ⟨v, h1, h2⟩ := hE.get _ _ hu'
          exact ⟨v, h1, h2.le (Fz.Le.refl z) (Ga.le_put hf.self)⟩
      · have := hH.row_new (e := e) (t := ty) (xs := []) (A := none) (cap := 0) (n := 0) (rows := []) hf (Ext.refl w) rfl ⟨by simp, .inl ⟨rfl, rfl⟩⟩ rfl (fun i x r h1 _ => by simp at h1) (fun q ⟨a, ha, _⟩ => nomatch ha)
        exact this
    · exact h
  · rename_i t ty
    split
    · rename_i x hL
      obtain ⟨z, g, hE, hH, hf, hz0, hg0⟩ := h
      obtain ⟨z', h1, h2⟩ := frzL_ok hH x.cs
      refine ⟨z', g, hE.le h1 (Ga.Le.refl g), ?_, hf, hz0.trans h1, hg0⟩
      unfold St.H at h2 ⊢
      rw [upH_append] at h2
      exact h2
    · exact h
  · rename_i t ps
    split
    · rename_i cs hL
      obtain ⟨z, g, hE, hH, hf, hz0, hg0⟩ := h
      obtain ⟨l, u, m, g', h1, h2, h3, h4, h5, _, _⟩ := prepW_ok (wantC objs ps) cs hH hf
      rw [h1]
      refine ⟨z, g', ⟨hE.size, hE.defers, fun t' x hx => ?_⟩, ?_, h3, hz0, hg0.trans h2⟩
      · have hx' : (if t' = t then some (SV.v (.agg l)) else s.L b t') = some x := by rw [← hx]; exact (St.L_cons (s := { s with heap := u ++ s.heap, nx := m })).symm
        split at hx'
        · rename_i ht
          subst ht
          obtain rfl := Option.some.inj hx'
          obtain ⟨v, k1, k2⟩ := hE.get _ _ hL
          obtain ⟨vs, k3, k4⟩ := k2
          exact ⟨v, k1, vs, k3, h5 z g' vs (Ga.Le.refl g') (k4.mono fun _ _ h => RC.le h (Fz.Le.refl z) h2)⟩
        · obtain ⟨v, k1, k2⟩ := hE.get _ _ hx'
          exact ⟨v, k1, k2.le (Fz.Le.refl z) h2⟩
      · unfold St.H at h4 ⊢
        rw [upH_append] at h4
        exact h4
    · exact h
  · exact h
theorem prepL_ok {F0 : Org} {b : Ba E} {objs : List (Nat × Bool × OP)} {a : Act} : ∀ {l : List (Nat × VP)} {s : St E}, Rel P E Bs F0 w0 N (s.L b) (s.H b) s.nx a w → Rel P E Bs F0 w0 N ((prepL b objs l s).L b) ((prepL b objs l s).H b) (prepL b objs l s).nx a w
  | [], _, h => h
  | p :: l, s, h => prepL_ok (l := l) (s := prepS b s objs p) (prepS_ok h)
theorem upH_far {H : Nat → Option (Obj E)} {i n : Nat} : ∀ {u : Chs E}, (∀ j o, (j, o) ∈ u → n ≤ j) → i < n → upH H u i = H i
  | [], _, _ => rfl
  | (j, p) :: u, h, hi => by
    simp only [upH]
    have : Nat.beq i j = false := by
      cases hb : Nat.beq i j with
      | false => rfl
      | true => have := Nat.eq_of_beq_eq_true hb; have := h j p (List.mem_cons_self ..); omega
    rw [this]
    exact upH_far (u := u) (fun j o hj => h j o (List.mem_cons_of_mem _ hj)) hi
theorem prepO1_ok {F0 : Org} {b : Ba E} {s : St E} {objs : List (Nat × Bool × OP)} {p : Nat × Bool × OP} {a : Act} (h : Rel P E Bs F0 w0 N (s.L b) (s.H b) s.nx a w) : Rel P E Bs F0 w0 N ((prepO1 b objs s p).L b) ((prepO1 b objs s p).H b) (prepO1 b objs s p).nx a w := by
  unfold prepO1
  split
  · rename_i j T' ps
    split
    · rename_i T cs hi
      obtain ⟨z, g, hE, hH, hf, hz0, hg0⟩ := h
      obtain ⟨l, u, m, g', h1, h2, h3, h4, h5, h6, h7⟩ := prepW_ok (wantC objs ps) cs hH hf
      rw [h1]
      obtain ⟨lo, hl⟩ := (hH.hold _ _ hi).loc
      have hj : j < s.nx := by
        rcases Nat.lt_or_ge j s.nx with h8 | h8
        · exact h8
        · rw [hf j h8] at hl; cases hl
      have hju : upH (s.H b) u j = some (.box T cs) := (upH_far h6 hj).trans hi
      have h8 := h4.up (Ga.Le.refl g') hju (o2 := .box T l) (fun z w ho => by
        obtain ⟨lo', vs, k1, k2, k3⟩ := ho
        exact ⟨lo', vs, k1, k2, h5 z g' vs (Ga.Le.refl g') k3⟩) (fun k => Iff.rfl)
      refine ⟨z, g', ⟨hE.size, hE.defers, fun t' x hx => ?_⟩, ?_, h3, hz0, hg0.trans h2⟩
      · obtain ⟨v, k1, k2⟩ := hE.get t' x hx
        exact ⟨v, k1, k2.le (Fz.Le.refl z) h2⟩
      · unfold St.H at h8 ⊢
        rw [upH_append, upH_append] at h8
        exact h8
    · exact h
  · exact h
theorem prepO_ok {F0 : Org} {b : Ba E} {objs : List (Nat × Bool × OP)} {a : Act} : ∀ {l : List (Nat × Bool × OP)} {s : St E}, Rel P E Bs F0 w0 N (s.L b) (s.H b) s.nx a w → Rel P E Bs F0 w0 N ((prepO b objs l s).L b) ((prepO b objs l s).H b) (prepO b objs l s).nx a w
  | [], _, h => h
  | p :: l, s, h => prepO_ok (l := l) (s := prepO1 b objs s p) (prepO1_ok h)
theorem prepLO_ok {F0 : Org} {b : Ba E} {objs l2 : List (Nat × Bool × OP)} {a : Act} {l : List (Nat × VP)} {s : St E} (h : Rel P E Bs F0 w0 N (s.L b) (s.H b) s.nx a w) : Rel P E Bs F0 w0 N ((prepO b objs l2 (prepL b objs l s)).L b) ((prepO b objs l2 (prepL b objs l s)).H b) (prepO b objs l2 (prepL b objs l s)).nx a w :=
  prepO_ok (prepL_ok h)
/-- One slot, got ready; several. -/
theorem prepV_ok {z : Fz} {g : Ga} {H : Nat → Option (Obj E)} {n : Nat} (t : Ty) (m : Mk) (x : V1 E) (hH : HR P E Bs F0 w0 w z g H) (hf : Fresh g n) :
    ∃ x' u n' g', (∀ {α : Type} (k : V1 E → Chs E → Nat → α), prepV E t m x n k = k x' u n') ∧ g.Le g' ∧ Fresh g' n' ∧ HR P E Bs F0 w0 w z g' (upH H u) ∧ (∀ z g2 v, g'.Le g2 → R1 P E z g2 x v → R1 P E z g2 x' v) ∧ (∀ i o, (i, o) ∈ u → n ≤ i) ∧ n ≤ n' := by
  cases x with
  | agg l =>
    obtain ⟨l', u, n', g', h1, h2, h3, h4, h5, h6, h7⟩ := prepW_ok (wantM m (E.flat t)) l hH hf
    refine ⟨.agg l', u, n', g', (fun k => ?_), h2, h3, h4, (fun z g2 v hg hv => ?_), h6, h7⟩
    · simp only [prepV]; exact h1 _
    · obtain ⟨vs, e, hv⟩ := hv; exact ⟨vs, e, h5 z g2 vs hg hv⟩
  | one c =>
    obtain ⟨l', u, n', g', h1, h2, h3, h4, h5, h6, h7⟩ := prepW_ok (wantM m (E.flat t)) [c] hH hf
    rcases l' with _ | ⟨c', _ | ⟨c2, l2⟩⟩
    · exact ⟨.one c, [], n, g, (fun k => by simp only [prepV]; exact h1 _), Ga.Le.refl g, hf, hH, (fun _ _ _ _ h => h), (fun _ _ h => nomatch h), Nat.le_refl _⟩
    · exact ⟨.one c', u, n', g', (fun k => by simp only [prepV]; exact h1 _), h2, h3, h4, (fun z g2 v hg hv => by
        have h8 : All2 (RC P E z g2) [c'] [v] := h5 z g2 [v] hg (.cons hv .nil)
        cases h8 with
        | cons h9 _ => exact h9), h6, h7⟩
    · exact ⟨.one c, [], n, g, (fun k => by simp only [prepV]; exact h1 _), Ga.Le.refl g, hf, hH, (fun _ _ _ _ h => h), (fun _ _ h => nomatch h), Nat.le_refl _⟩
theorem prepRs_ok {z : Fz} : ∀ (rs : Rs) (xs : List (V1 E)) {n : Nat} {g : Ga} {H : Nat → Option (Obj E)}, HR P E Bs F0 w0 w z g H → Fresh g n →
    ∃ xs' u n' g', (∀ {α : Type} (k : List (V1 E) → Chs E → Nat → α), prepRs E rs xs n k = k xs' u n') ∧ g.Le g' ∧ Fresh g' n' ∧ HR P E Bs F0 w0 w z g' (upH H u) ∧ (∀ z g2 vs, g'.Le g2 → All2 (R1 P E z g2) xs vs → All2 (R1 P E z g2) xs' vs) ∧ (∀ i o, (i, o) ∈ u → n ≤ i) ∧ n ≤ n'
  | [], xs, n, g, H, hH, hf => ⟨xs, [], n, g, (fun k => by cases xs <;> rfl), Ga.Le.refl g, hf, hH, (fun _ _ _ _ h => h), (fun _ _ h => nomatch h), Nat.le_refl _⟩
  | p :: rs, [], n, g, H, hH, hf => ⟨[], [], n, g, (fun k => rfl), Ga.Le.refl g, hf, hH, (fun _ _ _ _ h => h), (fun _ _ h => nomatch h), Nat.le_refl _⟩
  | (t, m) :: rs, x :: xs, n, g, H, hH, hf => by
    obtain ⟨x', u, n1, g1, h1, h2, h3, h4, h5, h6, h7⟩ := prepV_ok t m x hH hf
    obtain ⟨xs', u', n2, g2, k1, k2, k3, k4, k5, k6, k7⟩ := prepRs_ok rs xs h4 h3
    refine ⟨x' :: xs', u' ++ u, n2, g2, (fun k => ?_), h2.trans k2, k3, by rw [← upH_append]; exact k4, (fun z g3 vs hg hv => ?_), (fun i o ho => ?_), by omega⟩
    · simp only [prepRs]
      exact (h1 _).trans (k1 _)
    · cases hv with
      | cons hx hr => exact .cons (h5 z g3 _ (k2.trans hg) hx) (k5 z g3 _ hg hr)
    · rcases List.mem_append.1 ho with ho | ho
      · have := k6 i o ho; omega
      · exact h6 i o ho
end
end Rt
end Go

/-
  The second engine: a meeting, as a whole. No program in sight.
-/
namespace Go
namespace Rt
open Go.RowKit

section
variable {P : Program} {E : TE} {w w0 : World} {Bs : List Nat} {F0 : Org} {N : Nat}
theorem aget_mem {α : Type} {t : Nat} {v : α} : ∀ {l : List (Nat × α)}, aget t l = some v → (t, v) ∈ l
  | [], h => by cases h
  | (u, x) :: l, h => by
    simp only [aget] at h
    split at h
    · rename_i hb
      obtain rfl := Nat.eq_of_beq_eq_true hb
      obtain rfl := Option.some.inj h
      exact List.mem_cons_self ..
    · exact List.mem_cons_of_mem _ (aget_mem h)
theorem aget_filt {α : Type} {t : Nat} {K : List Nat} : ∀ {l : List (Nat × α)}, aget t (filtK K l) = match memN t K with | true => aget t l | false => none
  | [] => by cases memN t K <;> rfl
  | (u, x) :: l => by
    have ih := aget_filt (t := t) (K := K) (l := l)
    unfold filtK at ih ⊢
    simp only [List.filter_cons]
    cases hb : Nat.beq t u with
    | true =>
      obtain rfl := Nat.eq_of_beq_eq_true hb
      cases hm : memN t K with
      | true =>
        simp only [if_true, aget]
        have : Nat.beq t t = true := by simp
        rw [this]
      | false =>
        rw [hm] at ih
        simp only [Bool.false_eq_true, if_false]
        exact ih
    | false =>
      have : aget t ((u, x) :: l) = aget t l := by simp only [aget, hb]
      rw [this]
      split
      · simp only [aget, hb]
        exact ih
      · exact ih
theorem seen_filter {K : List Nat} {vis : Option (List Nat)} {t : Nat} : seen (some (K.filter (seen vis))) t = (memN t K && seen vis t) := by
  show memN t (K.filter (seen vis)) = _
  induction K with
  | nil => rfl
  | cons u K ih =>
    simp only [List.filter_cons, memN]
    cases hb : Nat.beq t u with
    | true =>
      obtain rfl := Nat.eq_of_beq_eq_true hb
      cases hs : seen vis t with
      | true => simp [memN]
      | false =>
        rw [hs, Bool.and_false] at ih
        simp [ih]
    | false =>
      cases hs : seen vis u with
      | true => simp [memN, hb, ih]
      | false => simp [ih]
/-- What stays of the slots. -/
theorem goS_L {j : JP} {b : Ba E} {s : St E} {env : List (Nat × Option (SV E))} {u : Chs E} {t : Nat} {x : SV E} (h : (j.goS s env u).L b t = some x) : aget t env = some (some x) ∨ (memN t j.keep = true ∧ s.L b t = some x) := by
  unfold JP.goS St.L at h
  simp only [aget_append, aget_filt, seen_filter] at h
  cases he : aget t env with
  | some v => rw [he] at h; simp only at h; subst h; exact .inl rfl
  | none =>
    rw [he] at h
    cases hm : memN t j.keep with
    | false => rw [hm] at h; simp at h
    | true =>
      rw [hm] at h
      refine .inr ⟨rfl, ?_⟩
      unfold St.L
      simpa using h
theorem goS_H {j : JP} {b : Ba E} {s : St E} {env : List (Nat × Option (SV E))} {u : Chs E} {i : Nat} {o : Obj E} (h : (j.goS s env u).H b i = some o) : (i, some o) ∈ u ∨ (memN i j.hkeep = true ∧ s.H b i = some o) := by
  unfold JP.goS St.H at h
  simp only [upH_get, aget_append, aget_filt, seen_filter] at h
  cases he : aget i u with
  | some v => rw [he] at h; simp only at h; subst h; exact .inl (aget_mem he)
  | none =>
    rw [he] at h
    cases hm : memN i j.hkeep with
    | false => rw [hm] at h; simp at h
    | true =>
      rw [hm] at h
      refine .inr ⟨rfl, ?_⟩
      unfold St.H
      rw [upH_get]
      simpa using h
theorem JP.mt_some {j : JP} {b : Ba E} {s0 : St E} {h : HL E.S j.T} (e : j.mt b s0 = some h) : ∃ s bs1 bs h1 h2, s = prepO b j.objs j.objs (prepL b j.objs j.slots s0) ∧ bindS (s.L b) j.slots [] = some bs1 ∧ bindO (s.H b) j.objs bs1 = some bs ∧
    j.mtB b.lo s bs = true ∧ focOK (s.H b) bs j.keep j.gkeep j.objs = true ∧ leafS (s.L b) (s.H b) j.slots = some h1 ∧ leafOs (s.H b) bs j.objs = some h2 ∧ h = hap h1 h2 := by
  unfold JP.mt at e
  generalize hs : prepO b j.objs j.objs (prepL b j.objs j.slots s0) = s at e
  simp only at e
  cases hb1 : bindS (s.L b) j.slots [] with
  | none => rw [hb1] at e; cases e
  | some bs1 =>
    rw [hb1] at e
    simp only at e
    cases hb2 : bindO (s.H b) j.objs bs1 with
    | none => rw [hb2] at e; cases e
    | some bs =>
      rw [hb2] at e
      obtain ⟨h1, h2⟩ := onlyIf_some e
      obtain ⟨a1, a2, h3, h4, h5⟩ := hapO_some h2
      simp only [Bool.and_eq_true] at h1
      exact ⟨s, bs1, bs, a1, a2, rfl, hb1, hb2, h1.1, h1.2, h3, h4, h5⟩
theorem noKey_aget {α : Type} {i : Nat} {l : List (Nat × α)} (h : noKey i l = true) : aget i l = none := by
  unfold noKey at h
  split at h
  · assumption
  · cases h
theorem bd_one {bs : Bd} (h : nodupB (bs.map (·.2)) = true) {i j id : Nat} (hi : aget i bs = some id) (hj : aget j bs = some id) : i = j := by
  obtain ⟨n, hn⟩ := List.getElem?_of_mem (aget_mem hi)
  obtain ⟨m, hm⟩ := List.getElem?_of_mem (aget_mem hj)
  have h1 : (bs.map (·.2))[n]? = some id := by rw [List.getElem?_map, hn]; rfl
  have h2 : (bs.map (·.2))[m]? = some id := by rw [List.getElem?_map, hm]; rfl
  have := nodup_get h h1 h2
  subst this
  rw [hn] at hm
  have := Option.some.inj hm
  exact congrArg Prod.fst this
/-- The new places. -/
def moved (g : Ga) (lo : Nat) (K : List Nat) (bs : Bd) : Ga := fun i => match memN i K || Nat.blt i lo with
  | true => g i
  | false => match aget i bs with
    | some id => g id
    | none => none
theorem JP.ok {j : JP} {b : Ba E} {s s0 : St E} {h : HL E.S j.T} {a : Act} {R : Type} {k : St E → Option R} {r : R} (hlo : Fresh F0.g b.lo) (hm : j.mt (s.base b) s0 = some h) (hR : Rel P E Bs F0 w0 N (s0.L (s.base b)) (s0.H (s.base b)) s0.nx a w) (hg : j.go b s h k = some r) :
    ∃ s', k s' = some r ∧ Rel P E Bs F0 w0 N (s'.L b) (s'.H b) s'.nx a w := by
  obtain ⟨s1, bs1, bs, h1, h2, hs1, hb1, hb2, hB, hfoc, hl1, hl2, rfl⟩ := JP.mt_some hm
  have hR1 := prepLO_ok (objs := j.objs) (l2 := j.objs) (l := j.slots) hR
  rw [← hs1] at hR1
  obtain ⟨z, g, hE, hH, hf, hz0, hg0⟩ := hR1
  unfold JP.mtB at hB
  simp only [Bool.and_eq_true] at hB
  obtain ⟨⟨⟨hlx, hself⟩, hk1⟩, hk2, hnd, hd1, hd2, hn1, hn2⟩ := hB
  unfold JP.go at hg
  rw [hfst_hap] at hg
  cases hns : newS j.slots h1 with
  | none => rw [hns] at hg; cases hg
  | some env =>
    rw [hns] at hg
    simp only at hg
    obtain ⟨hgo, hg⟩ := onlyIf_some hg
    rw [hsnd_hap] at hg
    unfold JP.goB at hgo
    simp only [Bool.and_eq_true] at hgo
    obtain ⟨ho1, ho2⟩ := hgo
    -- the new places
    have keyIn : ∀ i id, aget i bs = some id → memN i (j.hkeep ++ j.gkeep) = false := fun i id e => disj_mem hd2 (List.mem_map.2 ⟨_, aget_mem e, rfl⟩)
    have hbound : Bound g (moved g b.lo (j.hkeep ++ j.gkeep) bs) bs := fun i id e => by
      unfold moved
      rw [keyIn i id e, Bool.false_or]
      split
      · rename_i hb
        have h9 := List.all_eq_true.1 hself _ (aget_mem e)
        simp only [Bool.or_eq_true] at h9
        rcases h9 with h9 | h9
        · have h10 := Nat.le_of_ble_eq_true h9
          have h11 : i < b.lo := by simpa using hb
          have : b.lo ≤ i := h10
          omega
        · rw [Nat.eq_of_beq_eq_true h9]
      · rw [e]
    have hkeepG : ∀ i, memN i (j.hkeep ++ j.gkeep) = true → moved g b.lo (j.hkeep ++ j.gkeep) bs i = g i := fun i e => by
      unfold moved
      rw [e, Bool.true_or]
    have hgk : ∀ i, memN i j.gkeep = true → moved g b.lo (j.hkeep ++ j.gkeep) bs i = g i := fun i e => hkeepG i (by rw [memN_append, e, Bool.or_true])
    have hhk : ∀ i, memN i j.hkeep = true → moved g b.lo (j.hkeep ++ j.gkeep) bs i = g i := fun i e => hkeepG i (by rw [memN_append, e, Bool.true_or])
    have hA : ∀ i, memN i (j.hkeep ++ (j.gkeep ++ selfs j.objs)) = true → moved g b.lo (j.hkeep ++ j.gkeep) bs i = g i := fun i e => by
      rw [memN_append, memN_append] at e
      simp only [Bool.or_eq_true] at e
      rcases e with e | e | e
      · exact hhk i e
      · exact hgk i e
      · exact hbound i i ((bindO_le hb2).2 i (memN_true.1 e))
    have keepL : ∀ t, memN t j.keep = true → s1.L (s.base b) t = s.L b t := fun t ht => by
      have := List.all_eq_true.1 hk1 t (memN_true.1 ht)
      simp only [Bool.and_eq_true] at this
      unfold St.L
      rw [noKey_aget this.1, this.2]
      rfl
    have keepH : ∀ i, memN i j.hkeep = true → s1.H (s.base b) i = s.H b i := fun i hi => by
      have := List.all_eq_true.1 hk2 i (memN_true.1 hi)
      simp only [Bool.and_eq_true] at this
      unfold St.H
      rw [upH_get, noKey_aget this.1, this.2]
      rfl
    obtain ⟨u, hu, hobj⟩ := objs_meet hH hbound hgk (L := s.L b) (keep := j.keep) (fun sl id q i off hsl hL => by
      rw [← keepL sl hsl] at hL
      obtain ⟨v, _, hv⟩ := hE.get sl _ hL
      obtain ⟨l, h3, h4, _⟩ := hv
      exact ⟨l, h3, h4⟩) j.objs bs1 bs h2 _ hb2 (Bd.Le.refl bs) hl2 hfoc hg
    refine ⟨_, hu, z, moved g b.lo (j.hkeep ++ j.gkeep) bs, ⟨hE.size, hE.defers, fun t x hx => ?_⟩, ?_, fun i hi => ?_, hz0, fun i l hl => ?_⟩
    · rcases goS_L hx with hx | ⟨hk, hx⟩
      · obtain ⟨sv, s2, h3, h4, h5⟩ := slots_meet hH hbound j.slots [] bs1 h1 env hb1 (bindO_le hb2).1 hl1 hns t _ hx
        obtain rfl := Option.some.inj h3
        obtain ⟨v, h6, h7⟩ := hE.get t _ h4
        exact ⟨v, h6, h5 v h7⟩
      · have hx' := hx
        rw [← keepL t hk] at hx'
        obtain ⟨v, h6, h7⟩ := hE.get t _ hx'
        have h8 := List.all_eq_true.1 ho1 t (memN_true.1 hk)
        rw [hx] at h8
        exact ⟨v, h6, h7.same hA h8⟩
    · refine hH.remap (fun i => match memN i j.hkeep with | true => i | false => (aget i bs).getD i) (fun i i' o o' e e' hff => ?_) fun i o' e => ?_
      · have kind : ∀ i o, (j.goS s env u).H b i = some o → memN i j.hkeep = true ∨ (memN i j.hkeep = false ∧ ∃ id, aget i bs = some id) := fun i o e => by
          rcases goS_H e with e | ⟨e, _⟩
          · obtain ⟨id, _, _, h3, _⟩ := hobj i _ e
            have := keyIn i id h3
            rw [memN_append, Bool.or_eq_false_iff] at this
            exact .inr ⟨this.1, id, h3⟩
          · exact .inl e
        have far : ∀ i id, aget i bs = some id → memN id j.hkeep = false := fun i id e => disj_mem hd1 (List.mem_map.2 ⟨_, aget_mem e, rfl⟩)
        rcases kind i o e with h3 | ⟨h3, id, h4⟩ <;> rcases kind i' o' e' with h3' | ⟨h3', id', h4'⟩
        · simpa [h3, h3'] using hff
        · simp only [h3, h3', h4', Option.getD_some] at hff
          subst hff
          rw [far i' _ h4'] at h3
          cases h3
        · simp only [h3, h3', h4, Option.getD_some] at hff
          subst hff
          rw [far i _ h4] at h3'
          cases h3'
        · simp only [h3, h3', h4, h4', Option.getD_some] at hff
          subst hff
          exact bd_one hnd h4 h4'
      · rcases goS_H e with e | ⟨hk, e⟩
        · obtain ⟨id, o, p, h3, h4, h5, h6, h7⟩ := hobj i _ e
          obtain rfl := Option.some.inj h5
          have := keyIn i id h3
          rw [memN_append, Bool.or_eq_false_iff] at this
          simp only [this.1, h3, Option.getD_some]
          exact ⟨o, h4, h6 (hH.hold _ _ h4), h7⟩
        · simp only [hk]
          have e2 := e
          rw [← keepH i hk] at e2
          have h8 := List.all_eq_true.1 ho2 i (memN_true.1 hk)
          rw [e] at h8
          exact ⟨o', e2, (hH.hold _ _ e2).same hA (hhk i hk) h8, fun q hq => (fpO_same (hhk i hk)).1 hq⟩
    · have hi' : j.nx ≤ i := hi
      unfold moved
      have hble : b.lo ≤ i := Nat.le_trans (Nat.le_of_ble_eq_true hlx) hi'
      have hblt : Nat.blt i b.lo = false := by
        cases hb : Nat.blt i b.lo with
        | false => rfl
        | true => have : i < b.lo := by simpa using hb
                  omega
      rw [hblt, Bool.or_false]
      cases hmem : memN i (j.hkeep ++ j.gkeep) with
      | true =>
        have := List.all_eq_true.1 hn2 i (memN_true.1 hmem)
        have : i < j.nx := by simpa using this
        omega
      | false =>
        cases hag : aget i bs with
        | none => rfl
        | some id =>
          have := List.all_eq_true.1 hn1 _ (aget_mem hag)
          have : i < j.nx := by simpa using this
          omega
    · have hblt : Nat.blt i b.lo = true := by
        rcases Nat.lt_or_ge i b.lo with h9 | h9
        · simpa using h9
        · rw [hlo i h9] at hl; cases hl
      unfold moved
      rw [hblt, Bool.or_true]
      exact hg0 i l hl
end
end Rt
end Go

/-
  The second engine: what the interpreter says of code is so. No program in sight.
-/
namespace Go
namespace Rt
open Go.RowKit

section
variable {P : Program} {E : TE} {eqs : List (Nat × Nat)} {tab : Tab E} {N : Nat} {Bs : List Nat} {F0 : Org} {w0 : World} {RT : Type} {rv : Ba E → St E → Option RT} {Qr : RT → Act → World → Prop}
/-- How a way ends. -/
def exitOf : Option Nat → Exit
  | none => .normal
  | some i => .exit i
/-- What is to be shown of a piece of code. -/
def CodeOK (P : Program) (E : TE) (eqs : List (Nat × Nat)) (tab : Tab E) (N : Nat) (Bs : List Nat) (F0 : Org) (w0 : World) (RT : Type) (rv : Ba E → St E → Option RT) (Qr : RT → Act → World → Prop) (c : Code) : Prop :=
  ∀ (pl : Pl) (R : Type) (b : Ba E) (s : St E) (k : Option Nat → St E → Option R) (kr : RT → Option R) (r : R) (a : Act) (w : World) (Q : Exit → Act → World → Prop),
    Fresh F0.g b.lo → evCode P E eqs tab N RT rv c pl R b s k kr = some r → Rel P E Bs F0 w0 N (s.L b) (s.H b) s.nx a w →
    (∀ ex s' a' w', k ex s' = some r → Rel P E Bs F0 w0 N (s'.L b) (s'.H b) s'.nx a' w' → Q (exitOf ex) a' w') →
    (∀ y a' w', kr y = some r → Qr y a' w' → Q .ret a' w') → c.wp P Q a w
theorem seqPlain {x y : Code} {pl pl' : Pl} {R : Type} {b : Ba E} {s : St E} {k : Option Nat → St E → Option R} {kr : RT → Option R} {r : R} {a : Act} {w : World} {Q : Exit → Act → World → Prop}
    (hlo : Fresh F0.g b.lo) (hx : CodeOK P E eqs tab N Bs F0 w0 RT rv Qr x) (hy : CodeOK P E eqs tab N Bs F0 w0 RT rv Qr y)
    (h : evCode P E eqs tab N RT rv x pl R b s (fun ex s' => match ex with
      | none => evCode P E eqs tab N RT rv y pl' R b s' k kr
      | some i => k (some i) s') kr = some r) (hR : Rel P E Bs F0 w0 N (s.L b) (s.H b) s.nx a w)
    (hk : ∀ ex s' a' w', k ex s' = some r → Rel P E Bs F0 w0 N (s'.L b) (s'.H b) s'.nx a' w' → Q (exitOf ex) a' w') (hkr : ∀ y a' w', kr y = some r → Qr y a' w' → Q .ret a' w') : (Code.seq x y).wp P Q a w := by
  refine s_join (fun a' w' => y.wp P Q a' w') (fun _ _ h => h) (hx pl R b s _ kr r a w _ hlo h hR (fun ex s' a' w' he hR' => ?_) fun y' a' w' he hq => hkr y' a' w' he hq)
  cases ex with
  | none => exact hy pl' R b s' k kr r a' w' Q hlo he hR' hk hkr
  | some i => exact hk (some i) s' a' w' he hR'
theorem blockPlain {id : Nat} {x : Code} {pl : Pl} {R : Type} {b : Ba E} {s : St E} {k : Option Nat → St E → Option R} {kr : RT → Option R} {r : R} {a : Act} {w : World} {Q : Exit → Act → World → Prop}
    (hlo : Fresh F0.g b.lo) (hx : CodeOK P E eqs tab N Bs F0 w0 RT rv Qr x)
    (h : evCode P E eqs tab N RT rv x pl R b s (fun ex s' => match ex with
      | none => k none s'
      | some i => match Nat.beq i id with
        | true => k none s'
        | false => k (some i) s') kr = some r) (hR : Rel P E Bs F0 w0 N (s.L b) (s.H b) s.nx a w)
    (hk : ∀ ex s' a' w', k ex s' = some r → Rel P E Bs F0 w0 N (s'.L b) (s'.H b) s'.nx a' w' → Q (exitOf ex) a' w') (hkr : ∀ y a' w', kr y = some r → Qr y a' w' → Q .ret a' w') : (Code.block id x).wp P Q a w := by
  refine wp_block (hx pl R b s _ kr r a w _ hlo h hR (fun ex s' a' w' he hR' => ?_) fun y' a' w' he hq => hkr y' a' w' he hq)
  cases ex with
  | none => exact hk none s' a' w' he hR'
  | some i =>
    simp only at he
    show Exit.inBlock id Q (.exit i) a' w'
    show if i = id then Q .normal a' w' else Q (.exit i) a' w'
    split at he
    · rename_i hb
      rw [if_pos (Nat.eq_of_beq_eq_true hb)]
      exact hk none s' a' w' he hR'
    · rename_i hb
      rw [if_neg (beq_false hb)]
      exact hk (some i) s' a' w' he hR'
theorem toTp_inj {S : Nat → Type} {ts : List Ty} {x y : HL S ts} (h : toTp ts x = toTp ts y) : x = y := by
  rw [← ofTp_toTp ts x, ← ofTp_toTp ts y, h]
theorem seqJoin {x y : Code} {m : JP} {px py : Pl} {R : Type} {b : Ba E} {s : St E} {k : Option Nat → St E → Option R} {kr : RT → Option R} {r : R} {a : Act} {w : World} {Q : Exit → Act → World → Prop}
    (hlo : Fresh F0.g b.lo) (hx : CodeOK P E eqs tab N Bs F0 w0 RT rv Qr x) (hy : CodeOK P E eqs tab N Bs F0 w0 RT rv Qr y)
    (h : Option.bind (evCode P E eqs tab N RT rv x px (Tp E.S m.T) (s.base b) (St.new s.nx) (fun ex s' => match ex with
        | none => (match m.mt (s.base b) s' with | some h => some (toTp m.T h) | none => none)
        | some _ => none) (fun _ => none)) (fun o => m.go b s (ofTp m.T o) fun s' => evCode P E eqs tab N RT rv y py R b s' k kr) = some r) (hR : Rel P E Bs F0 w0 N (s.L b) (s.H b) s.nx a w)
    (hk : ∀ ex s' a' w', k ex s' = some r → Rel P E Bs F0 w0 N (s'.L b) (s'.H b) s'.nx a' w' → Q (exitOf ex) a' w') (hkr : ∀ y a' w', kr y = some r → Qr y a' w' → Q .ret a' w') : (Code.seq x y).wp P Q a w := by
  obtain ⟨o, h1, h2⟩ := bind_some h
  refine s_join (fun a' w' => ∃ s', evCode P E eqs tab N RT rv y py R b s' k kr = some r ∧ Rel P E Bs F0 w0 N (s'.L b) (s'.H b) s'.nx a' w') (fun a' w' ⟨s', h3, h4⟩ => hy py R b s' k kr r a' w' Q hlo h3 h4 hk hkr)
    (hx px _ (s.base b) (St.new s.nx) _ _ o a w _ hlo h1 hR (fun ex s' a' w' he hR' => ?_) fun y' a' w' he _ => nomatch he)
  cases ex with
  | none =>
    simp only at he
    split at he
    · rename_i hh hm
      obtain rfl := Option.some.inj he
      rw [ofTp_toTp] at h2
      exact JP.ok hlo hm hR' h2
    · cases he
  | some i => cases he
theorem seqJoinR {x y : Code} {m : JP} {px py : Pl} {R : Type} {b : Ba E} {s : St E} {k : Option Nat → St E → Option R} {kr : RT → Option R} {r : R} {a : Act} {w : World} {Q : Exit → Act → World → Prop}
    (hlo : Fresh F0.g b.lo) (hx : CodeOK P E eqs tab N Bs F0 w0 RT rv Qr x) (hy : CodeOK P E eqs tab N Bs F0 w0 RT rv Qr y)
    (h : Option.bind (evCode P E eqs tab N RT rv x px (Out (Tp E.S m.T) RT) (s.base b) (St.new s.nx) (fun ex s' => match ex with
        | none => (match m.mt (s.base b) s' with | some h => some (.fall (toTp m.T h)) | none => none)
        | some _ => none) (fun r => some (.ret r))) (fun o => match o with
          | .ret r => kr r
          | .fall o => m.go b s (ofTp m.T o) fun s' => evCode P E eqs tab N RT rv y py R b s' k kr) = some r) (hR : Rel P E Bs F0 w0 N (s.L b) (s.H b) s.nx a w)
    (hk : ∀ ex s' a' w', k ex s' = some r → Rel P E Bs F0 w0 N (s'.L b) (s'.H b) s'.nx a' w' → Q (exitOf ex) a' w') (hkr : ∀ y a' w', kr y = some r → Qr y a' w' → Q .ret a' w') : (Code.seq x y).wp P Q a w := by
  obtain ⟨o, h1, h2⟩ := bind_some h
  refine s_join (fun a' w' => ∃ s', evCode P E eqs tab N RT rv y py R b s' k kr = some r ∧ Rel P E Bs F0 w0 N (s'.L b) (s'.H b) s'.nx a' w') (fun a' w' ⟨s', h3, h4⟩ => hy py R b s' k kr r a' w' Q hlo h3 h4 hk hkr)
    (hx px _ (s.base b) (St.new s.nx) _ _ o a w _ hlo h1 hR (fun ex s' a' w' he hR' => ?_) fun y' a' w' he hq => ?_)
  · cases ex with
    | none =>
      simp only at he
      split at he
      · rename_i hh hm
        obtain rfl := Option.some.inj he
        simp only at h2
        rw [ofTp_toTp] at h2
        exact JP.ok hlo hm hR' h2
      · cases he
    | some i => cases he
  · obtain rfl := Option.some.inj he
    exact hkr y' a' w' h2 hq
theorem loopPlain {id : Nat} {body : Code} {hd ex : JP} {pb : Pl} {R : Type} {b : Ba E} {s : St E} {k : Option Nat → St E → Option R} {h0 : HL E.S hd.T} {r : R} {a : Act} {w : World} {Q : Exit → Act → World → Prop}
    (hlo : Fresh F0.g b.lo) (hx : CodeOK P E eqs tab N Bs F0 w0 RT rv Qr body) (hm : hd.mt (s.base b) (St.new s.nx) = some h0)
    (h : Option.bind (loopF (fun tp => hd.go (s.base b) (St.new s.nx) (ofTp hd.T tp) fun s1 => evCode P E eqs tab N RT rv body pb (Step (Tp E.S hd.T) (Tp E.S ex.T)) (s.base b) s1 (fun e s' => match e with
            | none => (match hd.mt (s.base b) s' with | some h => some (.next (toTp hd.T h)) | none => none)
            | some i => match Nat.beq i id with
              | true => (match ex.mt (s.base b) s' with | some h => some (.done (toTp ex.T h)) | none => none)
              | false => none) (fun _ => none)) BIG (toTp hd.T h0)) (fun o => ex.go b s (ofTp ex.T o) fun s' => k none s') = some r) (hR : Rel P E Bs F0 w0 N (s.L b) (s.H b) s.nx a w)
    (hk : ∀ ex s' a' w', k ex s' = some r → Rel P E Bs F0 w0 N (s'.L b) (s'.H b) s'.nx a' w' → Q (exitOf ex) a' w') : (Code.block id (.loop body)).wp P Q a w := by
  obtain ⟨o, h1, h2⟩ := bind_some h
  refine b_join (fun a' w' => ∃ s', k none s' = some r ∧ Rel P E Bs F0 w0 N (s'.L b) (s'.H b) s'.nx a' w') (fun a' w' ⟨s', h3, h4⟩ => hk none s' a' w' h3 h4)
    (loop_rule h1 (fun tp a' w' => ∃ s0 hh, hd.mt (s.base b) s0 = some hh ∧ tp = toTp hd.T hh ∧ Rel P E Bs F0 w0 N (s0.L (s.base b)) (s0.H (s.base b)) s0.nx a' w') ⟨_, _, hm, rfl, hR⟩ ?_)
  rintro tp a1 w1 ⟨s0, hh, h3, rfl, h4⟩ st hst hdone
  rw [ofTp_toTp] at hst
  obtain ⟨s1, h5, h6⟩ := JP.ok (b := s.base b) (s := St.new s.nx) hlo h3 h4 hst
  refine hx pb _ (s.base b) s1 _ _ st a1 w1 _ hlo h5 h6 (fun e s' a' w' he hR' => ?_) fun y' a' w' he _ => nomatch he
  cases e with
  | none =>
    simp only at he
    split at he
    · rename_i h7 hm7
      exact ⟨_, (Option.some.inj he).symm, s', h7, hm7, rfl, hR'⟩
    · cases he
  | some i =>
    simp only at he
    split at he
    · rename_i hb
      split at he
      · rename_i h7 hm7
        have h8 := hdone _ (Option.some.inj he).symm
        subst h8
        rw [ofTp_toTp] at h2
        show if i = id then _ else _
        rw [if_pos (Nat.eq_of_beq_eq_true hb)]
        exact JP.ok hlo hm7 hR' h2
      · cases he
    · cases he
theorem loopPlainR {id : Nat} {body : Code} {hd ex : JP} {pb : Pl} {R : Type} {b : Ba E} {s : St E} {k : Option Nat → St E → Option R} {kr : RT → Option R} {h0 : HL E.S hd.T} {r : R} {a : Act} {w : World} {Q : Exit → Act → World → Prop}
    (hlo : Fresh F0.g b.lo) (hx : CodeOK P E eqs tab N Bs F0 w0 RT rv Qr body) (hm : hd.mt (s.base b) (St.new s.nx) = some h0)
    (h : Option.bind (loopF (fun tp => hd.go (s.base b) (St.new s.nx) (ofTp hd.T tp) fun s1 => evCode P E eqs tab N RT rv body pb (Step (Tp E.S hd.T) (Out (Tp E.S ex.T) RT)) (s.base b) s1 (fun e s' => match e with
            | none => (match hd.mt (s.base b) s' with | some h => some (.next (toTp hd.T h)) | none => none)
            | some i => match Nat.beq i id with
              | true => (match ex.mt (s.base b) s' with | some h => some (.done (.fall (toTp ex.T h))) | none => none)
              | false => none) (fun r => some (.done (.ret r)))) BIG (toTp hd.T h0)) (fun o => match o with
          | .ret r => kr r
          | .fall o => ex.go b s (ofTp ex.T o) fun s' => k none s') = some r) (hR : Rel P E Bs F0 w0 N (s.L b) (s.H b) s.nx a w)
    (hk : ∀ ex s' a' w', k ex s' = some r → Rel P E Bs F0 w0 N (s'.L b) (s'.H b) s'.nx a' w' → Q (exitOf ex) a' w') (hkr : ∀ y a' w', kr y = some r → Qr y a' w' → Q .ret a' w') : (Code.block id (.loop body)).wp P Q a w := by
  obtain ⟨o, h1, h2⟩ := bind_some h
  refine b_join (fun a' w' => ∃ s', k none s' = some r ∧ Rel P E Bs F0 w0 N (s'.L b) (s'.H b) s'.nx a' w') (fun a' w' ⟨s', h3, h4⟩ => hk none s' a' w' h3 h4)
    (loop_rule h1 (fun tp a' w' => ∃ s0 hh, hd.mt (s.base b) s0 = some hh ∧ tp = toTp hd.T hh ∧ Rel P E Bs F0 w0 N (s0.L (s.base b)) (s0.H (s.base b)) s0.nx a' w') ⟨_, _, hm, rfl, hR⟩ ?_)
  rintro tp a1 w1 ⟨s0, hh, h3, rfl, h4⟩ st hst hdone
  rw [ofTp_toTp] at hst
  obtain ⟨s1, h5, h6⟩ := JP.ok (b := s.base b) (s := St.new s.nx) hlo h3 h4 hst
  refine hx pb _ (s.base b) s1 _ _ st a1 w1 _ hlo h5 h6 (fun e s' a' w' he hR' => ?_) fun y' a' w' he hq => ?_
  · cases e with
    | none =>
      simp only at he
      split at he
      · rename_i h7 hm7
        exact ⟨_, (Option.some.inj he).symm, s', h7, hm7, rfl, hR'⟩
      · cases he
    | some i =>
      simp only at he
      split at he
      · rename_i hb
        split at he
        · rename_i h7 hm7
          have h8 := hdone _ (Option.some.inj he).symm
          subst h8
          simp only at h2
          rw [ofTp_toTp] at h2
          show if i = id then _ else _
          rw [if_pos (Nat.eq_of_beq_eq_true hb)]
          exact JP.ok hlo hm7 hR' h2
        · cases he
      · cases he
  · have h8 := hdone _ (Option.some.inj he).symm
    subst h8
    exact hkr y' a' w' h2 hq
end
end Rt
end Go

/-
  The second engine: what the interpreter says of code is so: the whole. No program in sight.
-/
namespace Go
namespace Rt
open Go.RowKit

section
variable {P : Program} {E : TE} {eqs : List (Nat × Nat)} {tab : Tab E} {N : Nat} {Bs : List Nat} {F0 : Org} {w0 : World} {RT : Type} {rv : Ba E → St E → Option RT} {Qr : RT → Act → World → Prop}
theorem evCode_both (heq : ∀ p ∈ eqs, EqFact P E p.1 p.2) (ht : tab.OK P E) (hrv : ∀ b s a w y, Rel P E Bs F0 w0 N (s.L b) (s.H b) s.nx a w → rv b s = some y → Qr y a w) : ∀ (c : Code), CodeOK P E eqs tab N Bs F0 w0 RT rv Qr c ∧ ∀ body, c = .loop body → CodeOK P E eqs tab N Bs F0 w0 RT rv Qr body := by
  intro c
  induction c with
  | skip =>
    refine ⟨?_, fun _ e => nomatch e⟩
    intro pl R b s k kr r a w Q hlo h hR hk hkr
    rw [evCode.eq_def] at h
    exact wp_skip (hk none s a w h hR)
  | region id ops d =>
    refine ⟨?_, fun _ e => nomatch e⟩
    intro pl R b s k kr r a w Q hlo h hR hk hkr
    rw [evCode.eq_def] at h
    cases d with
    | true =>
      cases pl with
      | dr fl hs fm ids =>
        have := evDraw_ok (id := id) (Q := Q) heq ht h hR fun s' a' w' h1 h2 => hk none s' a' w' h1 h2
        rw [Array.toArray_toList] at this
        exact this
      | df fl hs p =>
        have := evFloat_ok (id := id) (Q := Q) heq ht h hR fun s' a' w' h1 h2 => hk none s' a' w' h1 h2
        rw [Array.toArray_toList] at this
        exact this
      | _ => cases h
    | false =>
      have := evReg_ok (id := id) (Q := Q) heq ht h hR fun s' a' w' h1 h2 => hk none s' a' w' h1 h2
      rw [Array.toArray_toList] at this
      exact this
  | seq x y hx hy =>
    refine ⟨?_, fun _ e => nomatch e⟩
    obtain ⟨hx, _⟩ := hx
    obtain ⟨hy, _⟩ := hy
    intro pl R b s k kr r a w Q hlo h hR hk hkr
    cases pl with
    | j m ret px py =>
      cases ret with
      | false => exact seqJoin hlo hx hy h hR hk hkr
      | true => exact seqJoinR hlo hx hy h hR hk hkr
    | p => exact seqPlain hlo hx hy h hR hk hkr
    | s px py => exact seqPlain hlo hx hy h hR hk hkr
    | lp hd ex ret px => exact seqPlain hlo hx hy h hR hk hkr
    | dr fl hs fm ids => exact seqPlain hlo hx hy h hR hk hkr
    | df fl hs p => exact seqPlain hlo hx hy h hR hk hkr
  | cond t x y hx hy =>
    refine ⟨?_, fun _ e => nomatch e⟩
    obtain ⟨hx, _⟩ := hx
    obtain ⟨hy, _⟩ := hy
    intro pl R b s k kr r a w Q hlo h hR hk hkr
    rw [evCode.eq_def] at h
    simp only at h
    split at h
    · rename_i c hc
      have hv : a.eval t = .bool c := by
        obtain ⟨z, g, hE, _, _⟩ := hR
        exact SV.bool_ok rfl (hE.op _ _ hc)
      refine wp_cond hv ?_
      cases c with
      | true => exact hx _ R b s k kr r a w Q hlo h hR hk hkr
      | false => exact hy _ R b s k kr r a w Q hlo h hR hk hkr
    · cases h
  | block id x hx =>
    refine ⟨?_, fun _ e => nomatch e⟩
    obtain ⟨hx, hl⟩ := hx
    intro pl R b s k kr r a w Q hlo h hR hk hkr
    have plain : evCode P E eqs tab N RT rv x pl R b s (fun ex s' => match ex with
      | none => k none s'
      | some i => match Nat.beq i id with
        | true => k none s'
        | false => k (some i) s') kr = some r → (Code.block id x).wp P Q a w := fun h => blockPlain hlo hx h hR hk hkr
    cases x with
    | loop body =>
      cases pl with
      | lp hd ex ret pb =>
        have hb := hl body rfl
        rw [evCode.eq_def] at h
        simp only at h
        split at h
        · cases h
        · rename_i h0 hm
          cases ret with
          | false => exact loopPlain hlo hb hm h hR hk
          | true => exact loopPlainR hlo hb hm h hR hk hkr
      | p => exact plain h
      | s px py => exact plain h
      | j m ret px py => exact plain h
      | dr fl hs fm ids => exact plain h
      | df fl hs p => exact plain h
    | _ => exact plain h
  | exit i =>
    refine ⟨?_, fun _ e => nomatch e⟩
    intro pl R b s k kr r a w Q hlo h hR hk hkr
    exact wp_exit (hk (some i) s a w h hR)
  | scope x hx =>
    refine ⟨?_, fun _ e => nomatch e⟩
    obtain ⟨hx, _⟩ := hx
    intro pl R b s k kr r a w Q hlo h hR hk hkr
    exact wp_scope_straight (hx pl R b s k kr r a w _ hlo h hR (fun ex s' a' w' h1 h2 => by cases ex <;> exact hk _ s' a' w' h1 h2) fun y a' w' h1 h2 => hkr y a' w' h1 h2)
  | ret =>
    refine ⟨?_, fun _ e => nomatch e⟩
    intro pl R b s k kr r a w Q hlo h hR hk hkr
    rw [evCode.eq_def] at h
    simp only at h
    split at h
    · rename_i y hy
      exact wp_ret (hkr y a w h (hrv b s a w y hR hy))
    · cases h
  | loop x hx =>
    refine ⟨?_, fun body e => by injection e with e; subst e; exact hx.1⟩
    intro pl R b s k kr r a w Q hlo h hR hk hkr
    rw [evCode.eq_def] at h
    cases h
  | _ =>
    refine ⟨?_, fun _ e => nomatch e⟩
    intro pl R b s k kr r a w Q hlo h hR hk hkr
    rw [evCode.eq_def] at h
    cases h
theorem evCode_ok (heq : ∀ p ∈ eqs, EqFact P E p.1 p.2) (ht : tab.OK P E) (hrv : ∀ b s a w y, Rel P E Bs F0 w0 N (s.L b) (s.H b) s.nx a w → rv b s = some y → Qr y a w) (c : Code) : CodeOK P E eqs tab N Bs F0 w0 RT rv Qr c := (evCode_both heq ht hrv c).1
end
end Rt
end Go
