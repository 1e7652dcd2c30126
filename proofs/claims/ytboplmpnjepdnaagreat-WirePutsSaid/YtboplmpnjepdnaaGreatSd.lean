/-
  The second engine: the memory behind a meeting, and the whole of a meeting. No program in sight.
-/
import Derived.Test.YtboplmpnjepdnaaGreatSc
namespace Go
namespace Rt
open Go.RowKit

section
variable {P : Program} {E : TE} {z : Fz} {g g' : Ga} {w w0 : World} {Bs : List Nat} {F0 : Nat → Prop} {N : Nat}
/-! ### Objects -/
theorem focK_ok {L : Nat → Option (SV E)} {R : Type} {t : Ty} {xs : List (Den E.S t)} {r : R} : ∀ {fs : List (Nat × Nat)} {k : List (Nat × Int × Den E.S t) → Option R}, focK L xs fs k = some r →
    ∃ l, k l = some r ∧ ∀ p ∈ l, ∃ sl id off, (p.1, sl) ∈ fs ∧ L sl = some (.v (.one (.elo id p.1 p.2.1 off))) ∧ getI xs p.2.1 = some p.2.2
  | [], k, h => ⟨[], h, fun _ hp => nomatch hp⟩
  | (q, sl) :: fs, k, h => by
    unfold focK at h
    split at h
    · rename_i id q' i off hL
      split at h
      · rename_i hb
        obtain rfl := Nat.eq_of_beq_eq_true hb
        obtain ⟨y, hy, h⟩ := bind_some h
        obtain ⟨l, h1, h2⟩ := focK_ok h
        refine ⟨_, h1, fun p hp => ?_⟩
        rcases List.mem_cons.1 hp with rfl | hp
        · exact ⟨sl, id, off, List.mem_cons_self .., hL, hy⟩
        · obtain ⟨sl', id', off', h3, h4⟩ := h2 p hp
          exact ⟨sl', id', off', List.mem_cons_of_mem _ h3, h4⟩
      · cases h
    · cases h
def focB (o : Obj E) (keep gkeep : List Nat) (fs : List (Nat × Nat)) : Bool := match o with
  | .row _ _ _ foc => fs.all fun f => (foc.any fun p => Nat.beq p.1 f.1) && (memN f.2 keep && memN f.1 gkeep)
  | _ => false
theorem obj_meet {H : Nat → Option (Obj E)} {L : Nat → Option (SV E)} {R : Type} {k : Obj E → Option R} {r : R} (hH : HR P E Bs F0 w0 w z g H) {bs : Bd} (hB : Bound g g' bs) {keep gkeep : List Nat} (hgk : ∀ i, memN i gkeep = true → g' i = g i)
    (hk : ∀ sl id q i off, memN sl keep = true → L sl = some (.v (.one (.elo id q i off))) → ∃ l, g q = some l ∧ l.ix = i) {p : OP} {o : Obj E} {h : HL E.S p.T} {i id : Nat} (hi : g' i = g id) (h1 : leafO H p o = some h) (h2 : newO L p h k = some r)
    (hf : ∀ e t fs, p = .row e t fs → focB o keep gkeep fs = true) (hc : ∀ T ps, p = .cells T ps → ∀ T' cs, o = .box T' cs → ∃ a b, bindC ps cs a = some b ∧ Bd.Le b bs) :
    ∃ o', k o' = some r ∧ (ObjR P E z g w id o → ObjR P E z g' w i o') ∧ ∀ q, fpO g' i o' q → fpO g id o q := by
  cases p with
  | box T t =>
    cases o with
    | box T' cs =>
      obtain ⟨hT, hq1⟩ := onlyIf_some (show onlyIf (Nat.beq T T') (unitO ((dataL E H (E.flat t) cs).map (E.ufl t))) = some h from h1)
      obtain rfl := Nat.eq_of_beq_eq_true hT
      have h3 := unitO_some hq1
      cases hd : dataL E H (E.flat t) cs with
      | none => rw [hd] at h3; cases h3
      | some d =>
        rw [hd] at h3
        have h4 : E.ufl t d = h.1 := Option.some.inj h3
        refine ⟨_, h2, fun ho => ?_, fun q hq => ?_⟩
        · obtain ⟨l, vs, h5, h6, h7⟩ := ho
          refine ⟨l, vs, by rw [hi]; exact h5, h6, ?_⟩
          have h8 := dataL_ok hH hd h7
          have h9 : d = E.fl t h.1 := by rw [← h4, E.fl_ufl]
          rw [h9] at h8
          exact cells_rd.1 h8
        · obtain ⟨l, h5, h6⟩ := hq
          exact ⟨l, by rw [← hi]; exact h5, h6⟩
    | _ => simp [leafO] at h1
  | cells T ps =>
    cases o with
    | box T' cs =>
      obtain ⟨a, b, h3, h4⟩ := hc T ps rfl T' cs rfl
      obtain ⟨hT, hq1⟩ := onlyIf_some (show onlyIf (Nat.beq T T') (leafC H ps cs) = some h from h1)
      obtain rfl := Nat.eq_of_beq_eq_true hT
      refine ⟨_, h2, fun ho => ?_, fun q hq => ?_⟩
      · obtain ⟨l, vs, h5, h6, h7⟩ := ho
        exact ⟨l, vs, by rw [hi]; exact h5, h6, cells_meet hH hB ps cs a b h vs h3 h4 hq1 h7⟩
      · obtain ⟨l, h5, h6⟩ := hq
        exact ⟨l, by rw [← hi]; exact h5, h6⟩
    | _ => simp [leafO] at h1
  | row e t fs =>
    cases o with
    | row e' t' xs foc =>
      obtain ⟨he, hq1⟩ := onlyIf_some (show onlyIf (Nat.beq e e') (unitO (castO t xs)) = some h from h1)
      obtain rfl := Nat.eq_of_beq_eq_true he
      obtain ⟨ht, hxs⟩ := castO_some (unitO_some hq1)
      subst ht
      have hxs : h.1 = xs := hxs
      obtain ⟨l, h3, h4⟩ := focK_ok (show focK L h.1 fs (fun l => k (.row e t' h.1 l)) = some r from h2)
      refine ⟨_, h3, fun ho => ?_, fun q hq => ?_⟩
      · obtain ⟨lo, rows, h5, hn, hcc, h6, h7, h8, h9', h10⟩ := ho
        rw [← hxs] at hn h9'
        refine ⟨lo, rows, by rw [hi]; exact h5, hn, hcc, h6, h7, h8, h9', fun p hp => ?_⟩
        obtain ⟨sl, id', off, h11, h12, h13⟩ := h4 p hp
        refine ⟨h13, ?_⟩
        have hf' := hf e t' fs rfl
        have hf2 := List.all_eq_true.1 hf' _ h11
        simp only [Bool.and_eq_true, List.any_eq_true] at hf2
        obtain ⟨⟨p0, hp0, hb⟩, hk1, hk2⟩ := hf2
        have hq := Nat.eq_of_beq_eq_true hb
        obtain ⟨_, lq, oo, h14, h15, h16, h17⟩ := h10 p0 hp0
        obtain ⟨l2, h18, h19⟩ := hk _ _ _ _ _ hk1 h12
        rw [hq, h18] at h14
        obtain rfl := Option.some.inj h14
        have hix : p0.2.1 = p.2.1 := by rw [← h17, h19]
        exact ⟨l2, oo, by rw [hgk _ hk2]; exact h18, h15, by rw [← hix]; exact h16, h19⟩
      · obtain ⟨l, a, h5, h6⟩ := hq
        exact ⟨l, a, by rw [← hi]; exact h5, h6⟩
    | _ => simp [leafO] at h1
theorem bindO_cons {H : Nat → Option (Obj E)} {j : Nat} {sf : Bool} {p : OP} {l : List (Nat × Bool × OP)} {a b : Bd} (h : bindO H ((j, sf, p) :: l) a = some b) :
    ∃ a1 a2, Bd.Le a a1 ∧ Bd.Le a1 a2 ∧ (sf = true → aget j a1 = some j) ∧ bindO H l a2 = some b ∧ ∀ T ps, p = .cells T ps → ∃ id T' cs, aget j a1 = some id ∧ H id = some (.box T' cs) ∧ bindC ps cs a1 = some a2 := by
  have first : ∃ a1, selfB sf j a = some a1 ∧ Bd.Le a a1 ∧ (sf = true → aget j a1 = some j) := by
    cases sf with
    | false => exact ⟨a, rfl, Bd.Le.refl a, fun e => nomatch e⟩
    | true =>
      cases ha : addB j j a with
      | none =>
        unfold bindO selfB at h
        simp only [ha] at h
        cases h
      | some a1 => exact ⟨a1, ha, (addB_ok ha).1, fun _ => (addB_ok ha).2⟩
  obtain ⟨a1, h1, h2, h3⟩ := first
  unfold bindO at h
  rw [h1] at h
  simp only at h
  cases p with
  | box T t => exact ⟨a1, a1, h2, Bd.Le.refl a1, h3, h, fun _ _ e => nomatch e⟩
  | row e t fs => exact ⟨a1, a1, h2, Bd.Le.refl a1, h3, h, fun _ _ e => nomatch e⟩
  | cells T ps =>
    simp only at h
    cases hj : aget j a1 with
    | none => simp only [hj] at h; cases h
    | some id =>
      simp only [hj] at h
      cases ho : H id with
      | none => simp only [ho] at h; cases h
      | some o =>
        cases o with
        | box T' cs =>
          simp only [ho] at h
          cases hb : bindC ps cs a1 with
          | none => simp only [hb] at h; cases h
          | some a2 =>
            simp only [hb] at h
            exact ⟨a1, a2, h2, bindC_le hb, h3, h, fun T2 ps2 e => by injection e with e1 e2; subst e2; exact ⟨id, T', cs, hj, ho, hb⟩⟩
        | _ => simp only [ho] at h; cases h
theorem bindO_le {H : Nat → Option (Obj E)} : ∀ {l : List (Nat × Bool × OP)} {a b : Bd}, bindO H l a = some b → Bd.Le a b ∧ ∀ j, j ∈ selfs l → aget j b = some j
  | [], a, b, h => by obtain rfl := Option.some.inj h; exact ⟨Bd.Le.refl _, fun _ hj => nomatch hj⟩
  | (j, sf, p) :: l, a, b, h => by
    obtain ⟨a1, a2, h1, h2, h3, h4, _⟩ := bindO_cons h
    obtain ⟨h5, h6⟩ := bindO_le h4
    refine ⟨(h1.trans h2).trans h5, fun i hi => ?_⟩
    cases sf with
    | false => exact h6 i hi
    | true =>
      rcases List.mem_cons.1 hi with rfl | hi
      · exact (h2.trans h5) _ _ (h3 rfl)
      · exact h6 i hi
theorem leafOs_cons {H : Nat → Option (Obj E)} {bs : Bd} {j : Nat} {sf : Bool} {p : OP} {l : List (Nat × Bool × OP)} {h : HL E.S (objsT ((j, sf, p) :: l))} (e : leafOs H bs ((j, sf, p) :: l) = some h) :
    ∃ id o h1 h2, aget j bs = some id ∧ H id = some o ∧ leafO H p o = some h1 ∧ leafOs H bs l = some h2 ∧ h = hap h1 h2 := by
  unfold leafOs at e
  cases hj : aget j bs with
  | none => rw [hj] at e; cases e
  | some id =>
    rw [hj] at e
    cases ho : H id with
    | none => simp only [ho] at e; cases e
    | some o =>
      simp only [ho] at e
      obtain ⟨a, b, h1, h2, h3⟩ := hapO_some e
      exact ⟨id, o, a, b, rfl, ho, h1, h2, h3⟩
theorem objs_meet {H : Nat → Option (Obj E)} {L : Nat → Option (SV E)} {R : Type} {r : R} (hH : HR P E Bs F0 w0 w z g H) {bs : Bd} (hB : Bound g g' bs) {keep gkeep : List Nat} (hgk : ∀ i, memN i gkeep = true → g' i = g i)
    (hk : ∀ sl id q i off, memN sl keep = true → L sl = some (.v (.one (.elo id q i off))) → ∃ l, g q = some l ∧ l.ix = i) : ∀ (l : List (Nat × Bool × OP)) (a b : Bd) (h : HL E.S (objsT l)) (k : Chs E → Option R),
    bindO H l a = some b → Bd.Le b bs → leafOs H bs l = some h → focOK H bs keep gkeep l = true → newOs L l h k = some r →
    ∃ u, k u = some r ∧ ∀ i o', (i, o') ∈ u → ∃ id o p, aget i bs = some id ∧ H id = some o ∧ o' = some p ∧ (ObjR P E z g w id o → ObjR P E z g' w i p) ∧ ∀ q, fpO g' i p q → fpO g id o q := by
  intro l
  induction l with
  | nil => intro a b h k _ _ _ _ h5; exact ⟨[], h5, fun _ _ hm => nomatch hm⟩
  | cons q l ih =>
    obtain ⟨j, sf, p⟩ := q
    intro a b h k h1 h2 h3 h4 h5
    obtain ⟨id, o, y1, y2, hj, ho, hl1, hl2, rfl⟩ := leafOs_cons h3
    obtain ⟨a1, a2, ha1, ha2, _, hb, hcell⟩ := bindO_cons h1
    have h6 : newO L p (hfst p.T (objsT l) (hap y1 y2)) (fun o => newOs L l (hsnd p.T (objsT l) (hap y1 y2)) fun u => k ((j, some o) :: u)) = some r := h5
    rw [hfst_hap, hsnd_hap] at h6
    have hfoc : focOK H bs keep gkeep l = true ∧ ∀ e t fs, p = .row e t fs → focB o keep gkeep fs = true := by
      cases p with
      | row e t fs =>
        unfold focOK at h4
        simp only [hj, ho, Bool.and_eq_true] at h4
        refine ⟨h4.2, fun e2 t2 fs2 he => ?_⟩
        injection he with _ _ he
        subst he
        unfold focB
        cases o <;> first | exact h4.1 | cases h4.1
      | _ => exact ⟨h4, fun _ _ _ he => nomatch he⟩
    have hle2 : Bd.Le a2 bs := (bindO_le hb).1.trans h2
    obtain ⟨o', h7, h8, h9⟩ := obj_meet hH hB hgk hk (hB j id hj) hl1 h6 hfoc.2 fun T ps hp T' cs hcs => by
      obtain ⟨id2, T2, cs2, h10, h11, h12⟩ := hcell T ps hp
      have h13 := hle2 _ _ (ha2 _ _ h10)
      rw [hj] at h13
      obtain rfl := Option.some.inj h13
      rw [ho, hcs] at h11
      injection h11 with h11
      injection h11 with _ h11
      subst h11
      exact ⟨a1, a2, h12, hle2⟩
    obtain ⟨u, h10, h11⟩ := ih a2 b y2 _ hb h2 hl2 hfoc.1 h7
    refine ⟨_, h10, fun i o2 hm => ?_⟩
    rcases List.mem_cons.1 hm with he | hm
    · injection he with e1 e2
      subst e1; subst e2
      exact ⟨id, o, o', hj, ho, rfl, h8, h9⟩
    · exact h11 i o2 hm
/-! ### Getting ready -/
theorem St.L_cons {b : Ba E} {s : St E} {t t' : Nat} {v : Option (SV E)} : St.L b { s with env := (t, v) :: s.env } t' = if t' = t then v else s.L b t' := by
  unfold St.L
  simp only [aget]
  by_cases h : t' = t
  · subst h
    have : Nat.beq t' t' = true := by simp
    rw [this, if_pos rfl]
  · have : Nat.beq t' t = false := by
      cases hb : Nat.beq t' t with
      | false => rfl
      | true => exact absurd (Nat.eq_of_beq_eq_true hb) h
    rw [this, if_neg h]
theorem prepS_ok {F0 : Org} {b : Ba E} {s : St E} {objs : List (Nat × Bool × OP)} {p : Nat × VP} {a : Act} (h : Rel P E Bs F0 w0 N (s.L b) (s.H b) s.nx a w) : Rel P E Bs F0 w0 N ((prepS b s objs p).L b) ((prepS b s objs p).H b) (prepS b s objs p).nx a w := by
  unfold prepS
  split
  · rename_i t j
    split
    · rename_i e ty hL hrow
      obtain ⟨z, g, hE, hH, hf, hz0, hg0⟩ := h
      refine ⟨z, g.put s.nx ⟨none, 0, 0, E.size ty, 0, 0⟩, ⟨hE.size, hE.defers, fun t' u hu => ?_⟩, ?_, hf.put _, hz0, hg0.trans (Ga.le_put hf.self)⟩
      · have hu' : (if t' = t then some (SV.v (.one (.own s.nx))) else s.L b t') = some u := by rw [← hu]; exact (St.L_cons (s := { s with heap := (s.nx, some (.row e ty [] [])) :: s.heap, nx := s.nx + 1 })).symm
        split at hu'
        · rename_i ht
          subst ht
          obtain rfl := Option.some.inj hu'
          obtain ⟨v, h1, h2⟩ := hE.get _ _ hL
          have h3 : v = .slice none 0 0 := h2
          exact ⟨v, h1, _, Ga.put_self _ _ _, h3⟩
        · obtain ⟨v, h1, h2⟩ := hE.get _ _ hu'
          exact ⟨v, h1, h2.le (Fz.Le.refl z) (Ga.le_put hf.self)⟩
      · have := hH.row_new (e := e) (t := ty) (xs := []) (A := none) (cap := 0) (n := 0) (rows := []) hf (Ext.refl w) rfl ⟨by simp, .inl ⟨rfl, rfl⟩⟩ rfl (fun i x r h1 _ => by simp at h1) (fun q ⟨a, ha, _⟩ => nomatch ha)
        exact this
    · exact h
  · rename_i t ty
    split
    · rename_i x hL
      obtain ⟨z, g, hE, hH, hf, hz0, hg0⟩ := h
      obtain ⟨z', h1, h2⟩ := frzL_ok hH x.cs
      refine ⟨z', g, hE.le h1 (Ga.Le.refl g), ?_, hf, hz0.trans h1, hg0⟩
      unfold St.H at h2 ⊢
      rw [upH_append] at h2
      exact h2
    · exact h
  · exact h
theorem prepL_ok {F0 : Org} {b : Ba E} {objs : List (Nat × Bool × OP)} {a : Act} : ∀ {l : List (Nat × VP)} {s : St E}, Rel P E Bs F0 w0 N (s.L b) (s.H b) s.nx a w → Rel P E Bs F0 w0 N ((prepL b objs l s).L b) ((prepL b objs l s).H b) (prepL b objs l s).nx a w
  | [], _, h => h
  | p :: l, s, h => prepL_ok (l := l) (s := prepS b s objs p) (prepS_ok h)
end
end Rt
end Go
