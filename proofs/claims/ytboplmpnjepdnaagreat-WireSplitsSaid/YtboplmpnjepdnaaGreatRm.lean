/-
  The second engine, thirteenth text: the law of a call. No program in sight.
-/
import Derived.Test.YtboplmpnjepdnaaGreatRl
namespace Go
namespace Rt
open Go.RowKit

section
variable {P : Program} {E : TE} {z z' : Fz} {g g' : Ga} {nx : Nat} {w w' w0 : World} {H H' : Nat → Option (Obj E)} {Bs : List Nat} {F0 : Nat → Prop}
/-! ### What is frozen for a call -/
def frzCaps (E : TE) (H : Nat → Option (Obj E)) : List Nat → Chs E
  | [] => []
  | id :: ids => (match upH H (frzCaps E H ids) id with
    | some (.box T cs) => match E.ty T with
      | some t => match dataL E (upH H (frzCaps E H ids)) (E.flat t) cs with
        | some h => [(id, some (.fb t (E.ufl t h)))]
        | none => []
      | none => []
    | _ => []) ++ frzCaps E H ids
theorem frzCaps_ok (h : HR P E Bs F0 w0 w z g H) : ∀ (l : List Nat), ∃ z', z.Le z' ∧ HR P E Bs F0 w0 w z' g (upH H (frzCaps E H l))
  | [] => ⟨z, Fz.Le.refl z, h⟩
  | id :: l => by
    obtain ⟨z1, h1, h2⟩ := frzCaps_ok h l
    unfold frzCaps
    split
    · rename_i T cs hi
      split
      · rename_i t ht
        split
        · rename_i hd hh
          refine ⟨_, h1.trans (h2.fz.grow_le _), h2.freezeBox (t := t) (x := E.ufl t hd) hi (fun vs hvs => ?_) fun j q hj => ?_⟩
          · rw [E.fl_ufl]; exact dataL_ok h2 hh hvs
          · rw [← upH_append] at hj
            exact upH_one hj
        · exact ⟨z1, h1, h2⟩
      · exact ⟨z1, h1, h2⟩
    · exact ⟨z1, h1, h2⟩
def unM : Mk → List (SC E) → List (SC E)
  | some _ :: ms, _ :: cs => unM ms cs
  | none :: ms, c :: cs => c :: unM ms cs
  | [], cs => cs
  | _, [] => []
def frzF (E : TE) (H : Nat → Option (Obj E)) : List (SC E) → Chs E
  | [.clo _ ids] => frzCaps E H ids
  | [.ptr id 0] => frzCaps E H [id]
  | _ => []
def frzQ (E : TE) (H : Nat → Option (Obj E)) : Pm → V1 E → Chs E
  | .d _, x => frzL H x.cs
  | .l _ m, x => frzL H (unM m x.cs)
  | .g _ m, x => frzL H (unM m x.cs)
  | .b _ _, _ => []
  | .mp _ _ _, _ => []
  | _, x => frzF E H x.cs
def frzP (E : TE) (H : Nat → Option (Obj E)) : List Pm → List (V1 E) → Chs E
  | p :: ps, x :: xs => frzQ E (upH H (frzP E H ps xs)) p x ++ frzP E H ps xs
  | _, _ => []
theorem frzF_ok (h : HR P E Bs F0 w0 w z g H) (l : List (SC E)) : ∃ z', z.Le z' ∧ HR P E Bs F0 w0 w z' g (upH H (frzF E H l)) := by
  unfold frzF
  split
  · exact frzCaps_ok h _
  · exact frzCaps_ok h _
  · exact ⟨z, Fz.Le.refl z, h⟩
theorem frzQ_ok (h : HR P E Bs F0 w0 w z g H) (p : Pm) (x : V1 E) : ∃ z', z.Le z' ∧ HR P E Bs F0 w0 w z' g (upH H (frzQ E H p x)) := by
  cases p with
  | d t => exact frzL_ok h _
  | l t m => exact frzL_ok h _
  | g t m => exact frzL_ok h _
  | b T t => exact ⟨z, Fz.Le.refl z, h⟩
  | mp T k v => exact ⟨z, Fz.Le.refl z, h⟩
  | p t => exact frzF_ok h _
  | f1 a r => exact frzF_ok h _
  | f2 a b r => exact frzF_ok h _
theorem frzP_ok (h : HR P E Bs F0 w0 w z g H) : ∀ (ps : List Pm) (xs : List (V1 E)), ∃ z', z.Le z' ∧ HR P E Bs F0 w0 w z' g (upH H (frzP E H ps xs))
  | [], _ => ⟨z, Fz.Le.refl z, h⟩
  | _ :: _, [] => ⟨z, Fz.Le.refl z, h⟩
  | p :: ps, x :: xs => by
    obtain ⟨z1, h1, h2⟩ := frzP_ok h ps xs
    obtain ⟨z2, h3, h4⟩ := frzQ_ok h2 p x
    rw [upH_append] at h4
    exact ⟨z2, h1.trans h3, h4⟩
/-- Only frozen objects are new. -/
def OnlyF (u : Chs E) : Prop := ∀ i o, (i, o) ∈ u → (∃ t xs, o = some (.fr t xs)) ∨ ∃ t x, o = some (.fb t x)
theorem OnlyF.append {u v : Chs E} (h : OnlyF u) (h' : OnlyF v) : OnlyF (u ++ v) := fun i o hm => by
  rcases List.mem_append.1 hm with hm | hm
  · exact h i o hm
  · exact h' i o hm
theorem frz1_only (H : Nat → Option (Obj E)) (c : SC E) : OnlyF (frz1 H c) := by
  unfold frz1
  split
  · split
    · intro i o hm
      simp only [List.mem_singleton, Prod.mk.injEq] at hm
      exact .inl ⟨_, _, hm.2⟩
    · intro i o hm; cases hm
  · intro i o hm; cases hm
theorem frzL_only (H : Nat → Option (Obj E)) : ∀ (l : List (SC E)), OnlyF (frzL H l)
  | [] => fun i o hm => by cases hm
  | c :: l => (frz1_only _ c).append (frzL_only H l)
theorem frzCaps_only (H : Nat → Option (Obj E)) : ∀ (l : List Nat), OnlyF (frzCaps E H l)
  | [] => fun i o hm => by cases hm
  | id :: l => by
    unfold frzCaps
    refine OnlyF.append ?_ (frzCaps_only H l)
    split
    · split
      · split
        · intro i o hm
          simp only [List.mem_singleton, Prod.mk.injEq] at hm
          exact .inr ⟨_, _, hm.2⟩
        · intro i o hm; cases hm
      · intro i o hm; cases hm
    · intro i o hm; cases hm
theorem frzF_only (H : Nat → Option (Obj E)) (l : List (SC E)) : OnlyF (frzF E H l) := by
  unfold frzF
  split
  · exact frzCaps_only H _
  · exact frzCaps_only H _
  · intro i o hm; cases hm
theorem frzP_only (H : Nat → Option (Obj E)) : ∀ (ps : List Pm) (xs : List (V1 E)), OnlyF (frzP E H ps xs)
  | [], _ => fun i o hm => by simp [frzP] at hm
  | _ :: _, [] => fun i o hm => by simp [frzP] at hm
  | p :: ps, x :: xs => by
    refine OnlyF.append ?_ (frzP_only H ps xs)
    cases p with
    | d t => exact frzL_only _ _
    | l t m => exact frzL_only _ _
    | g t m => exact frzL_only _ _
    | b T t => intro i o hm; cases hm
    | mp T k v => intro i o hm; cases hm
    | p t => exact frzF_only _ _
    | f1 a r => exact frzF_only _ _
    | f2 a b r => exact frzF_only _ _
theorem upH_or {i : Nat} {o : Obj E} : ∀ {u : Chs E}, upH H u i = some o → H i = some o ∨ (i, some o) ∈ u
  | [], h => .inl h
  | (j, p) :: u, h => by
    simp only [upH] at h
    split at h
    · rename_i hb
      obtain rfl := Nat.eq_of_beq_eq_true hb
      subst h
      exact .inr (List.mem_cons_self ..)
    · rcases upH_or h with h | h
      · exact .inl h
      · exact .inr (List.mem_cons_of_mem _ h)
/-! ### Flat data -/
theorem RD.flat : ∀ {ts : List Ty} {h : HL E.S ts} {vs : List Value}, ts.all Ty.flatB = true → RD E z ts h vs → RD E z' ts h vs
  | [], h, vs, _, r => by rw [r.nil_inv]; exact .nil
  | .int k :: ts, h, vs, hf, r => by
    obtain ⟨vs', rfl, r'⟩ := r.int_inv
    exact .int (RD.flat (by simpa [Ty.flatB] using hf) r')
  | .bool :: ts, h, vs, hf, r => by
    obtain ⟨vs', rfl, r'⟩ := r.bool_inv
    exact .bool (RD.flat (by simpa [Ty.flatB] using hf) r')
  | .str :: ts, h, vs, hf, r => by
    obtain ⟨vs', rfl, r'⟩ := r.str_inv
    exact .str (RD.flat (by simpa [Ty.flatB] using hf) r')
  | .sl e :: ts, h, vs, hf, r => by simp [Ty.flatB] at hf
  | .st n :: ts, h, vs, hf, r => by simp [Ty.flatB] at hf
def flatT (E : TE) (t : Ty) : Bool := (E.flat t).all Ty.flatB
theorem Rows.flat {t : Ty} {xs : List (Den E.S t)} {rows : List (List Value)} (hf : flatT E t = true) (h : Rows E z t xs rows) : Rows E z' t xs rows := fun i x r h1 h2 => (h i x r h1 h2).flat hf
/-- Marked cells hold rows of flat data; the others are flat. -/
def flatM (E : TE) : Mk → List Ty → Bool
  | some _ :: ms, .sl t :: ts => flatT E t && flatM E ms ts
  | none :: ms, t :: ts => t.flatB && flatM E ms ts
  | _, ts => ts.all Ty.flatB
/-- .. of the rows alone. -/
def flatO (E : TE) : Mk → List Ty → Bool
  | some _ :: ms, .sl t :: ts => flatT E t && flatO E ms ts
  | none :: ms, _ :: ts => flatO E ms ts
  | _, _ => true
def flatRs (E : TE) : Rs → Bool
  | [] => true
  | p :: rs => flatM E p.2 (E.flat p.1) && flatRs E rs
def flatPs (E : TE) : List Pm → Bool
  | [] => true
  | .l t m :: ps => flatO E m (E.flat t) && flatPs E ps
  | .g _ _ :: ps => flatPs E ps
  | .b _ t :: ps => flatT E t && flatPs E ps
  | _ :: ps => flatPs E ps
theorem flatM_O : ∀ {m : Mk} {ts : List Ty}, flatM E m ts = true → flatO E m ts = true := by
  intro m
  induction m with
  | nil => intro ts _; cases ts <;> rfl
  | cons a m ih =>
    intro ts h
    cases ts with
    | nil => cases a <;> rfl
    | cons t ts =>
      cases a with
      | none => simp only [flatM, Bool.and_eq_true] at h; simp only [flatO]; exact ih h.2
      | some e =>
        cases t with
        | sl t => simp only [flatM, Bool.and_eq_true] at h; simp only [flatO, Bool.and_eq_true]; exact ⟨h.1, ih h.2⟩
        | _ => rfl
/-- An object of flat data. -/
def FlatObj (E : TE) : Obj E → Prop
  | .row _ t _ foc => flatT E t = true ∧ foc = []
  | .map _ _ _ _ _ foc => foc = []
  | .box _ cs => ∃ (t : Ty) (x : Den E.S t), flatT E t = true ∧ cs = E.cells t x
  | _ => False
theorem ownO_flat {m : Mk} : ∀ {ts : List Ty} {h : HL E.S ts} {n : Nat}, flatO E m ts = true → ∀ i o, (i, o) ∈ ownO E m ts h n → ∃ p, o = some p ∧ FlatObj E p := by
  induction m with
  | nil => intro ts h n _ i o ho; cases ts <;> simp [ownO] at ho
  | cons a m ih =>
    intro ts h n hf i o ho
    cases ts with
    | nil => cases a <;> simp [ownO] at ho
    | cons t ts =>
      cases a with
      | none => simp only [flatO] at hf; simp only [ownO] at ho; exact ih hf i o ho
      | some e =>
        cases t with
        | sl t =>
          simp only [flatO, Bool.and_eq_true] at hf
          simp only [ownO, List.mem_cons, Prod.mk.injEq] at ho
          rcases ho with ⟨rfl, rfl⟩ | ho
          · exact ⟨_, rfl, hf.1, rfl⟩
          · exact ih hf.2 i o ho
        | _ => simp [ownO] at ho
theorem resO_flat : ∀ {rs : Rs} {h : HL E.S rs.ts} {n : Nat}, flatRs E rs = true → ∀ i o, (i, o) ∈ resO E rs h n → ∃ p, o = some p ∧ FlatObj E p
  | [], h, n, _, i, o, ho => by simp [resO] at ho
  | (t, m) :: rs, h, n, hf, i, o, ho => by
    simp only [flatRs, Bool.and_eq_true] at hf
    simp only [resO, List.mem_append] at ho
    rcases ho with ho | ho
    · exact ownO_flat (flatM_O hf.1) i o ho
    · exact resO_flat hf.2 i o ho
theorem argsB_flat : ∀ {ps : List Pm} {a : PA E ps} {n : Nat}, flatPs E ps = true → ∀ i o, (i, o) ∈ argsB E ps a n → ∃ p, o = some p ∧ FlatObj E p
  | [], a, n, _, i, o, ho => by simp [argsB] at ho
  | .l t m :: ps, a, n, hf, i, o, ho => by
    simp only [flatPs, Bool.and_eq_true] at hf
    simp only [argsB, List.mem_append] at ho
    rcases ho with ho | ho
    · exact ownO_flat hf.1 i o ho
    · exact argsB_flat hf.2 i o ho
  | .b T t :: ps, a, n, hf, i, o, ho => by
    simp only [flatPs, Bool.and_eq_true] at hf
    simp only [argsB, List.mem_cons, Prod.mk.injEq] at ho
    rcases ho with ⟨rfl, rfl⟩ | ho
    · exact ⟨_, rfl, t, a.1, hf.1, rfl⟩
    · exact argsB_flat hf.2 i o ho
  | .g t m :: ps, a, n, hf, i, o, ho => argsB_flat (ps := ps) (a := a.2) hf i o ho
  | .mp T k v :: ps, a, n, hf, i, o, ho => by
    simp only [argsB, List.mem_cons, Prod.mk.injEq] at ho
    rcases ho with ⟨rfl, rfl⟩ | ho
    · exact ⟨_, rfl, rfl⟩
    · exact argsB_flat (ps := ps) hf i o ho
  | .d t :: ps, a, n, hf, i, o, ho => argsB_flat (ps := ps) (a := a.2) hf i o ho
  | .p t :: ps, a, n, hf, i, o, ho => argsB_flat (ps := ps) (a := a.2) hf i o ho
  | .f1 x r :: ps, a, n, hf, i, o, ho => argsB_flat (ps := ps) (a := a.2) hf i o ho
  | .f2 x y r :: ps, a, n, hf, i, o, ho => argsB_flat (ps := ps) (a := a.2) hf i o ho
/-- An object under another number, in other frozen memory. -/
def Plain (E : TE) : Obj E → Prop
  | .row _ _ _ foc => foc = []
  | .map _ _ _ _ _ foc => foc = []
  | .box _ cs => ∃ (t : Ty) (x : Den E.S t), cs = E.cells t x
  | _ => False
theorem ObjR.move {i j : Nat} {o : Obj E} (hp : Plain E o) (hz : z = z' ∨ FlatObj E o) (hg : g' j = g i) (h : ObjR P E z g w i o) : ObjR P E z' g' w j o ∧ ∀ k, fpO g' j o k ↔ fpO g i o k := by
  cases o with
  | row e t xs foc =>
    simp only [Plain] at hp
    subst hp
    obtain ⟨l, rows, h1, hn, hc, h2, h3, h4, h5, _⟩ := h
    refine ⟨⟨l, rows, by rw [hg]; exact h1, hn, hc, h2, h3, h4, ?_, fun p hp => nomatch hp⟩, fun k => by simp only [fpO, hg]⟩
    rcases hz with rfl | hz
    · exact h5
    · exact h5.flat hz.1
  | box T cs =>
    obtain ⟨l, vs, h1, h2, h3⟩ := h
    refine ⟨⟨l, vs, by rw [hg]; exact h1, h2, ?_⟩, fun k => by simp only [fpO, hg]⟩
    rcases hz with rfl | ⟨t, x, hf, rfl⟩
    · obtain ⟨t, x, rfl⟩ := hp
      exact cells_rd.1 (cells_rd.2 h3)
    · exact cells_rd.1 ((cells_rd.2 h3).flat hf)
  | fr t xs => exact hp.elim
  | fb t x => exact hp.elim
  | map T k v ks vs foc =>
    simp only [Plain] at hp
    subst hp
    obtain ⟨l, es, c, h1, h2, h3, _⟩ := h
    exact ⟨⟨l, es, c, by rw [hg]; exact h1, h2, h3, fun p hp => nomatch hp⟩, fun k => by simp only [fpO, hg]⟩
theorem ownO_plain {m : Mk} : ∀ {ts : List Ty} {h : HL E.S ts} {n : Nat}, ∀ i o, (i, o) ∈ ownO E m ts h n → ∃ p, o = some p ∧ Plain E p ∧ n ≤ i ∧ i < n + cntO m ts := by
  induction m with
  | nil => intro ts h n i o ho; cases ts <;> simp [ownO] at ho
  | cons a m ih =>
    intro ts h n i o ho
    cases ts with
    | nil => cases a <;> simp [ownO] at ho
    | cons t ts =>
      cases a with
      | none => simp only [ownO] at ho; simp only [cntO]; exact ih i o ho
      | some e =>
        cases t with
        | sl t =>
          simp only [ownO, List.mem_cons, Prod.mk.injEq] at ho
          simp only [cntO]
          rcases ho with ⟨rfl, rfl⟩ | ho
          · exact ⟨_, rfl, rfl, Nat.le_refl _, by omega⟩
          · obtain ⟨p, h1, h2, h3, h4⟩ := ih i o ho
            exact ⟨p, h1, h2, by omega, by omega⟩
        | _ => simp [ownO] at ho
def cntR (E : TE) : Rs → Nat
  | [] => 0
  | p :: rs => cntO p.2 (E.flat p.1) + cntR E rs
theorem resO_plain : ∀ {rs : Rs} {h : HL E.S rs.ts} {n : Nat}, ∀ i o, (i, o) ∈ resO E rs h n → ∃ p, o = some p ∧ Plain E p ∧ n ≤ i ∧ i < n + cntR E rs
  | [], h, n, i, o, ho => by simp [resO] at ho
  | (t, m) :: rs, h, n, i, o, ho => by
    simp only [resO, List.mem_append] at ho
    simp only [cntR]
    rcases ho with ho | ho
    · obtain ⟨p, h1, h2, h3, h4⟩ := ownO_plain i o ho
      exact ⟨p, h1, h2, h3, by omega⟩
    · obtain ⟨p, h1, h2, h3, h4⟩ := resO_plain i o ho
      exact ⟨p, h1, h2, by omega, by omega⟩
theorem argsO_plain : ∀ {ps : List Pm} {a : PA E ps} {n : Nat}, ∀ i o, (i, o) ∈ argsO E ps a n → ∃ p, o = some p ∧ Plain E p ∧ n ≤ i ∧ i < n + cntA E ps
  | [], a, n, i, o, ho => by simp [argsO] at ho
  | .l t m :: ps, a, n, i, o, ho => by
    simp only [argsO, List.mem_append] at ho
    simp only [cntA]
    rcases ho with ho | ho
    · obtain ⟨p, h1, h2, h3, h4⟩ := ownO_plain i o ho
      exact ⟨p, h1, h2, h3, by omega⟩
    · obtain ⟨p, h1, h2, h3, h4⟩ := argsO_plain (ps := ps) (a := a.2) i o ho
      exact ⟨p, h1, h2, by omega, by omega⟩
  | .g t m :: ps, a, n, i, o, ho => by
    simp only [argsO, List.mem_append] at ho
    simp only [cntA]
    rcases ho with ho | ho
    · obtain ⟨p, h1, h2, h3, h4⟩ := ownO_plain i o ho
      exact ⟨p, h1, h2, h3, by omega⟩
    · obtain ⟨p, h1, h2, h3, h4⟩ := argsO_plain (ps := ps) (a := a.2) i o ho
      exact ⟨p, h1, h2, by omega, by omega⟩
  | .b T t :: ps, a, n, i, o, ho => by
    simp only [argsO, List.mem_cons, Prod.mk.injEq] at ho
    simp only [cntA]
    rcases ho with ⟨rfl, rfl⟩ | ho
    · exact ⟨_, rfl, ⟨t, a.1, rfl⟩, Nat.le_refl _, by omega⟩
    · obtain ⟨p, h1, h2, h3, h4⟩ := argsO_plain (ps := ps) (a := a.2) i o ho
      exact ⟨p, h1, h2, by omega, by omega⟩
  | .mp T k v :: ps, a, n, i, o, ho => by
    simp only [argsO, List.mem_cons, Prod.mk.injEq] at ho
    simp only [cntA]
    rcases ho with ⟨rfl, rfl⟩ | ho
    · exact ⟨_, rfl, rfl, Nat.le_refl _, by omega⟩
    · obtain ⟨p, h1, h2, h3, h4⟩ := argsO_plain (ps := ps) (a := a.2) i o ho
      exact ⟨p, h1, h2, by omega, by omega⟩
  | .d t :: ps, a, n, i, o, ho => argsO_plain (ps := ps) (a := a.2) i o ho
  | .p t :: ps, a, n, i, o, ho => argsO_plain (ps := ps) (a := a.2) i o ho
  | .f1 x r :: ps, a, n, i, o, ho => argsO_plain (ps := ps) (a := a.2) i o ho
  | .f2 x y r :: ps, a, n, i, o, ho => argsO_plain (ps := ps) (a := a.2) i o ho
end
end Rt
end Go
