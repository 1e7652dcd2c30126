/-
  The second engine, fourteenth text: a call, whole. No program in sight.
-/
import Derived.Test.YtboplmpnjepdnaaGreatRm
namespace Go
namespace Rt
open Go.RowKit

section
variable {P : Program} {E : TE} {z z' : Fz} {g g' : Ga} {nx : Nat} {w w' w0 : World} {H H' : Nat → Option (Obj E)} {Bs : List Nat} {F0 : Nat → Prop}
/-! ### Keys -/
def UniqK (l : Chs E) : Prop := ∀ i o o', (i, o) ∈ l → (i, o') ∈ l → o = o'
theorem upH_of_mem {i : Nat} {o : Option (Obj E)} : ∀ {l : Chs E}, UniqK l → (i, o) ∈ l → upH H l i = o
  | [], _, h => by cases h
  | (j, p) :: l, hu, h => by
    simp only [upH]
    split
    · rename_i hb
      obtain rfl := Nat.eq_of_beq_eq_true hb
      exact hu i p o (List.mem_cons_self ..) h
    · rename_i hb
      have hne := beq_false hb
      refine upH_of_mem (fun a b c h1 h2 => hu a b c (List.mem_cons_of_mem _ h1) (List.mem_cons_of_mem _ h2)) ?_
      rcases List.mem_cons.1 h with h | h
      · simp only [Prod.mk.injEq] at h; exact absurd h.1 hne
      · exact h
theorem UniqK.append {l m : Chs E} (hl : UniqK l) (hm : UniqK m) (hd : ∀ i o o', (i, o) ∈ l → (i, o') ∈ m → False) : UniqK (l ++ m) := fun i o o' h h' => by
  rcases List.mem_append.1 h with h | h <;> rcases List.mem_append.1 h' with h' | h'
  · exact hl i o o' h h'
  · exact (hd i o o' h h').elim
  · exact (hd i o' o h' h).elim
  · exact hm i o o' h h'
theorem ownO_uniq {m : Mk} : ∀ {ts : List Ty} {h : HL E.S ts} {n : Nat}, UniqK (ownO E m ts h n) := by
  induction m with
  | nil => intro ts h n i o o' ho; cases ts <;> simp [ownO] at ho
  | cons a m ih =>
    intro ts h n
    cases ts with
    | nil => intro i o o' ho; cases a <;> simp [ownO] at ho
    | cons t ts =>
      cases a with
      | none => simp only [ownO]; exact ih
      | some e =>
        cases t with
        | sl t =>
          simp only [ownO]
          intro i o o' h1 h2
          simp only [List.mem_cons, Prod.mk.injEq] at h1 h2
          rcases h1 with ⟨rfl, rfl⟩ | h1 <;> rcases h2 with ⟨h2, rfl⟩ | h2
          · rfl
          · obtain ⟨_, _, _, h3, _⟩ := ownO_plain _ _ h2; omega
          · obtain ⟨_, _, _, h3, _⟩ := ownO_plain _ _ h1; omega
          · exact ih i o o' h1 h2
        | _ => intro i o o' ho; simp [ownO] at ho
theorem resO_uniq : ∀ {rs : Rs} {h : HL E.S rs.ts} {n : Nat}, UniqK (resO E rs h n)
  | [], h, n => fun i o o' ho => by simp [resO] at ho
  | (t, m) :: rs, h, n => by
    simp only [resO]
    refine UniqK.append ownO_uniq resO_uniq fun i o o' h1 h2 => ?_
    obtain ⟨_, _, _, _, h3⟩ := ownO_plain _ _ h1
    obtain ⟨_, _, _, h4, _⟩ := resO_plain _ _ h2
    omega
theorem argsO_uniq : ∀ {ps : List Pm} {a : PA E ps} {n : Nat}, UniqK (argsO E ps a n)
  | [], a, n => fun i o o' ho => by simp [argsO] at ho
  | .l t m :: ps, a, n => by
    simp only [argsO]
    refine UniqK.append ownO_uniq (argsO_uniq (ps := ps)) fun i o o' h1 h2 => ?_
    obtain ⟨_, _, _, _, h3⟩ := ownO_plain _ _ h1
    obtain ⟨_, _, _, h4, _⟩ := argsO_plain (ps := ps) _ _ h2
    omega
  | .g t m :: ps, a, n => by
    simp only [argsO]
    refine UniqK.append ownO_uniq (argsO_uniq (ps := ps)) fun i o o' h1 h2 => ?_
    obtain ⟨_, _, _, _, h3⟩ := ownO_plain _ _ h1
    obtain ⟨_, _, _, h4, _⟩ := argsO_plain (ps := ps) _ _ h2
    omega
  | .b T t :: ps, a, n => by
    simp only [argsO]
    intro i o o' h1 h2
    simp only [List.mem_cons, Prod.mk.injEq] at h1 h2
    rcases h1 with ⟨rfl, rfl⟩ | h1 <;> rcases h2 with ⟨h2, rfl⟩ | h2
    · rfl
    · obtain ⟨_, _, _, h3, _⟩ := argsO_plain (ps := ps) _ _ h2; omega
    · obtain ⟨_, _, _, h3, _⟩ := argsO_plain (ps := ps) _ _ h1; omega
    · exact argsO_uniq (ps := ps) i o o' h1 h2
  | .mp T k v :: ps, a, n => by
    simp only [argsO]
    intro i o o' h1 h2
    simp only [List.mem_cons, Prod.mk.injEq] at h1 h2
    rcases h1 with ⟨rfl, rfl⟩ | h1 <;> rcases h2 with ⟨h2, rfl⟩ | h2
    · rfl
    · obtain ⟨_, _, _, h3, _⟩ := argsO_plain (ps := ps) _ _ h2; omega
    · obtain ⟨_, _, _, h3, _⟩ := argsO_plain (ps := ps) _ _ h1; omega
    · exact argsO_uniq (ps := ps) i o o' h1 h2
  | .d t :: ps, a, n => argsO_uniq (ps := ps) (a := a.2)
  | .p t :: ps, a, n => argsO_uniq (ps := ps) (a := a.2)
  | .f1 x r :: ps, a, n => argsO_uniq (ps := ps) (a := a.2)
  | .f2 x y r :: ps, a, n => argsO_uniq (ps := ps) (a := a.2)
theorem ownO_shift {m : Mk} : ∀ {ts : List Ty} {h : HL E.S ts} {n n' d : Nat} {o : Option (Obj E)}, (n + d, o) ∈ ownO E m ts h n → (n' + d, o) ∈ ownO E m ts h n' := by
  induction m with
  | nil => intro ts h n n' d o ho; cases ts <;> simp [ownO] at ho
  | cons a m ih =>
    intro ts h n n' d o ho
    cases ts with
    | nil => cases a <;> simp [ownO] at ho
    | cons t ts =>
      cases a with
      | none => simp only [ownO] at ho ⊢; exact ih ho
      | some e =>
        cases t with
        | sl t =>
          simp only [ownO, List.mem_cons, Prod.mk.injEq] at ho ⊢
          rcases ho with ⟨h1, rfl⟩ | ho
          · exact .inl ⟨by omega, rfl⟩
          · right
            obtain ⟨_, _, _, h3, _⟩ := ownO_plain _ _ ho
            obtain ⟨d', rfl⟩ : ∃ d', d = d' + 1 := ⟨d - 1, by omega⟩
            rw [show n + (d' + 1) = n + 1 + d' by omega] at ho
            rw [show n' + (d' + 1) = n' + 1 + d' by omega]
            exact ih ho
        | _ => simp [ownO] at ho
theorem resO_shift : ∀ {rs : Rs} {h : HL E.S rs.ts} {n n' d : Nat} {o : Option (Obj E)}, (n + d, o) ∈ resO E rs h n → (n' + d, o) ∈ resO E rs h n'
  | [], h, n, n', d, o, ho => by simp [resO] at ho
  | (t, m) :: rs, h, n, n', d, o, ho => by
    simp only [resO, List.mem_append] at ho ⊢
    rcases ho with ho | ho
    · exact .inl (ownO_shift ho)
    · right
      obtain ⟨_, _, _, h3, _⟩ := resO_plain _ _ ho
      obtain ⟨d', rfl⟩ : ∃ d', d = cntO m (E.flat t) + d' := ⟨d - cntO m (E.flat t), by omega⟩
      rw [← Nat.add_assoc] at ho ⊢
      exact resO_shift ho
theorem ownO_len {m : Mk} : ∀ {ts : List Ty} {h : HL E.S ts} {n : Nat}, (ownO E m ts h n).length = cntO m ts := by
  induction m with
  | nil => intro ts h n; cases ts <;> simp [ownO, cntO]
  | cons a m ih =>
    intro ts h n
    cases ts with
    | nil => cases a <;> simp [ownO, cntO]
    | cons t ts =>
      cases a with
      | none => simp only [ownO, cntO]; exact ih
      | some e =>
        cases t with
        | sl t => simp only [ownO, cntO, List.length_cons, ih]
        | _ => simp [ownO, cntO]
theorem resO_len : ∀ {rs : Rs} {h : HL E.S rs.ts} {n : Nat}, (resO E rs h n).length = cntR E rs
  | [], h, n => rfl
  | (t, m) :: rs, h, n => by simp only [resO, cntR, List.length_append, ownO_len, resO_len]
theorem argsB_uniq {ps : List Pm} {a : PA E ps} {n : Nat} : UniqK (argsB E ps a n) := fun i o o' h h' => argsO_uniq i o o' (argsB_sub h) (argsB_sub h')
/-! ### Results under other numbers -/
theorem ownC_move {m : Mk} : ∀ {ts : List Ty} {h : HL E.S ts} {n n' : Nat} {v : List Value}, All2 (RC P E z g) (ownC E m ts h n) v → (∀ i l, i < cntO m ts → g (n + i) = some l → g' (n' + i) = some l) → (z = z' ∨ flatM E m ts = true) → All2 (RC P E z' g') (ownC E m ts h n') v := by
  have key : ∀ {ts : List Ty} {h : HL E.S ts} {v : List Value}, All2 (RC P E z g) (hlc E ts h) v → (z = z' ∨ ts.all Ty.flatB = true) → All2 (RC P E z' g') (hlc E ts h) v := by
    intro ts h v hv hz
    rcases hz with rfl | hz
    · exact hlc_rd.1 (hlc_rd.2 hv)
    · exact hlc_rd.1 ((hlc_rd.2 hv).flat hz)
  induction m with
  | nil =>
    intro ts h n n' v hv hg hz
    cases ts with
    | nil => simp only [ownC] at hv ⊢; exact key hv (hz.imp id fun h => h)
    | cons t ts => simp only [ownC] at hv ⊢; exact key hv (hz.imp id fun h => h)
  | cons a m ih =>
    intro ts h n n' v hv hg hz
    cases ts with
    | nil => cases a <;> simp only [ownC] at hv ⊢ <;> exact key hv (.inr rfl)
    | cons t ts =>
      cases a with
      | none =>
        simp only [ownC] at hv ⊢
        cases hv with
        | cons h1 h2 =>
          simp only [flatM, Bool.and_eq_true] at hz
          refine .cons ?_ (ih h2 hg (hz.imp id And.right))
          rcases hz with rfl | hz
          · exact h1
          · exact RD.flat (ts := [t]) (by simp [hz.1]) h1
      | some e =>
        cases t with
        | sl t =>
          simp only [ownC] at hv ⊢
          cases hv with
          | cons h1 h2 =>
            obtain ⟨l, h3, h4⟩ := h1
            simp only [flatM, Bool.and_eq_true] at hz
            refine .cons ⟨l, hg 0 l (by simp only [cntO]; omega) h3, h4⟩ (ih h2 (fun i l hi' hi => ?_) (hz.imp id And.right))
            have := hg (i + 1) l (by simp only [cntO]; omega) (by rw [show n + (i + 1) = n + 1 + i by omega]; exact hi)
            rwa [show n' + (i + 1) = n' + 1 + i by omega] at this
        | _ => simp only [ownC] at hv ⊢; exact key hv (hz.imp id fun h => h)
theorem ownC_len {m : Mk} : ∀ {ts : List Ty} {h : HL E.S ts} {n : Nat}, (ownC E m ts h n).length = ts.length := by
  induction m with
  | nil => intro ts h n; cases ts <;> simp only [ownC] <;> exact hlc_len _ _
  | cons a m ih =>
    intro ts h n
    cases ts with
    | nil => cases a <;> simp only [ownC] <;> exact hlc_len _ _
    | cons t ts =>
      cases a with
      | none => simp only [ownC, List.length_cons, ih]
      | some e =>
        cases t with
        | sl t => simp only [ownC, List.length_cons, ih]
        | _ => simp only [ownC]; exact hlc_len _ _
theorem asV_some {t : Ty} {l l' : List (SC E)} {x : V1 E} (hl : l'.length = l.length) (h : asV E t l = some x) : ∃ x', asV E t l' = some x' := by
  cases t with
  | st n => exact ⟨_, rfl⟩
  | _ =>
    cases l with
    | nil => simp [asV] at h
    | cons c l =>
      cases l with
      | cons d l => simp [asV] at h
      | nil =>
        match l', hl with
        | [d], _ => exact ⟨_, rfl⟩
theorem asV_move {t : Ty} {l l' : List (SC E)} {x x' : V1 E} {v : Value} (h : asV E t l = some x) (h' : asV E t l' = some x') (hr : R1 P E z g x v) (hm : ∀ vs, All2 (RC P E z g) l vs → All2 (RC P E z' g') l' vs) : R1 P E z' g' x' v := by
  have one : ∀ c d, l = [c] → l' = [d] → RC P E z g c v → RC P E z' g' d v := fun c d e e' hc => by
    subst e; subst e'
    have := hm [v] (.cons hc .nil)
    cases this with
    | cons h _ => exact h
  cases t with
  | st n =>
    simp only [asV, Option.some.injEq] at h h'
    subst h; subst h'
    obtain ⟨vs, rfl, hr⟩ := hr
    exact ⟨vs, rfl, hm vs hr⟩
  | _ =>
    cases l with
    | nil => simp [asV] at h
    | cons c l =>
      cases l with
      | cons d l => simp [asV] at h
      | nil =>
        cases l' with
        | nil => simp [asV] at h'
        | cons c' l' =>
          cases l' with
          | cons d l => simp [asV] at h'
          | nil =>
            simp only [asV, Option.some.injEq] at h h'
            subst h; subst h'
            exact one c c' rfl rfl hr
theorem resV_move : ∀ {rs : Rs} {h : HL E.S rs.ts} {n n' : Nat} {l l' : List (V1 E)} {vs : List Value}, resV E rs h n = some l → resV E rs h n' = some l' → All2 (R1 P E z g) l vs → (∀ i l, i < cntR E rs → g (n + i) = some l → g' (n' + i) = some l) → (z = z' ∨ flatRs E rs = true) → All2 (R1 P E z' g') l' vs
  | [], h, n, n', l, l', vs, e, e', hr, _, _ => by
    simp only [resV, Option.some.injEq] at e e'
    subst e; subst e'
    cases hr
    exact .nil
  | (t, m) :: rs, h, n, n', l, l', vs, e, e', hr, hg, hz => by
    simp only [resV] at e e'
    split at e
    · rename_i x q hx hq
      obtain rfl := Option.some.inj e
      split at e'
      · rename_i x' q' hx' hq'
        obtain rfl := Option.some.inj e'
        simp only [flatRs, Bool.and_eq_true] at hz
        cases hr with
        | cons h1 h2 =>
          refine .cons (asV_move hx hx' h1 fun vs hvs => ownC_move hvs (fun i l hi => hg i l (by simp only [cntR]; omega)) (hz.imp id And.left)) (resV_move hq hq' h2 (fun i l hi' hi => ?_) (hz.imp id And.right))
          rw [Nat.add_assoc] at hi ⊢
          exact hg _ l (by simp only [cntR]; omega) hi
      · cases e'
    · cases e
theorem resV_len : ∀ {rs : Rs} {h : HL E.S rs.ts} {n n' : Nat} {l l' : List (V1 E)}, resV E rs h n = some l → resV E rs h n' = some l' → l.length = l'.length
  | [], h, n, n', l, l', e, e' => by
    simp only [resV, Option.some.injEq] at e e'
    subst e; subst e'; rfl
  | (t, m) :: rs, h, n, n', l, l', e, e' => by
    simp only [resV] at e e'
    split at e
    · rename_i x q hx hq
      obtain rfl := Option.some.inj e
      split at e'
      · rename_i x' q' hx' hq'
        obtain rfl := Option.some.inj e'
        simp [resV_len hq hq']
      · cases e'
    · cases e
theorem oneV_move {l l' : List (V1 E)} {v : Value} (hl : l.length = l'.length) (h : RV P E z g (oneV E l) v) (hm : ∀ vs, All2 (R1 P E z g) l vs → All2 (R1 P E z' g') l' vs) : RV P E z' g' (oneV E l') v := by
  match l, l', hl with
  | [], [], _ => obtain ⟨vs, rfl, hr⟩ := h; exact ⟨vs, rfl, hm vs hr⟩
  | [x], [x'], _ =>
    have := hm [v] (.cons h .nil)
    cases this with
    | cons h _ => exact h
  | x :: y :: l, x' :: y' :: l', _ => obtain ⟨vs, rfl, hr⟩ := h; exact ⟨vs, rfl, hm vs hr⟩
/-! ### A call -/
def lentU (I : List Nat) (l : Chs E) : Chs E := l.map fun p => (I.getD p.1 0, p.2)
def goneU (I : List Nat) : Chs E := I.map fun i => (i, none)
def callU (E : TE) (C : Con E) (nx : Nat) (q : PA E C.ps × List Nat) (rh : HL E.S C.rs.ts) (bh : HL E.S (backs C.ps)) : Chs E := resO E C.rs rh nx ++ (lentU q.2 (argsB E C.ps (putB E C.ps q.1 bh) 0) ++ goneU q.2)
def lCall (E : TE) (tab : Tab E) (H : Nat → Option (Obj E)) (nx : Nat) (f : FuncId) (xs : List (V1 E)) {R : Type} (k : Option (SV E) → Chs E → Option R) : Option R :=
  match tab f with
  | none => none
  | some C => match takeA E tab (upH H (frzP E H C.ps xs)) C.ps xs with
    | none => none
    | some q => match nodupB q.2 with
      | false => none
      | true => C.F R q.1 fun rh bh => match resV E C.rs rh nx with
        | none => none
        | some svr => match C.ali with
          | true => k (some (oneV E svr)) (callU E C nx q rh bh ++ frzP E H C.ps xs)
          | false => match flatRs E C.rs && flatPs E C.ps with
            | true => k (some (oneV E svr)) (callU E C nx q rh bh)
            | false => none
theorem callU_look {C : Con E} {q : PA E C.ps × List Nat} {rh : HL E.S C.rs.ts} {bh : HL E.S (backs C.ps)} {Hb : Nat → Option (Obj E)} (hc : q.2.length = cntA E C.ps) (hlt : ∀ id ∈ q.2, id < nx) {j : Nat} {o : Obj E}
    (h : upH Hb (callU E C nx q rh bh) j = some o) :
    (∃ i, ((nx ≤ j ∧ j < nx + cntR E C.rs ∧ i = cntA E C.ps + (j - nx)) ∨ (j < nx ∧ q.2[i]? = some j)) ∧ upH (fun _ => none) (resO E C.rs rh (cntA E C.ps) ++ argsB E C.ps (putB E C.ps q.1 bh) 0) i = some o) ∨ (j ∉ q.2 ∧ Hb j = some o) := by
  have hu : UniqK (resO E C.rs rh (cntA E C.ps) ++ argsB E C.ps (putB E C.ps q.1 bh) 0) := UniqK.append resO_uniq argsB_uniq fun i o o' h1 h2 => by
    obtain ⟨_, _, _, h3, _⟩ := resO_plain _ _ h1
    obtain ⟨_, _, _, _, h4⟩ := argsO_plain _ _ (argsB_sub h2)
    omega
  unfold callU at h
  rw [← upH_append] at h
  rcases upH_or h with h | h
  · rw [← upH_append] at h
    rcases upH_or h with h | h
    · have hnot : ∀ (I : List Nat), upH Hb (goneU I) j = some o → j ∉ I ∧ Hb j = some o := by
        intro I
        induction I with
        | nil => intro h; exact ⟨by simp, h⟩
        | cons i I ih =>
          intro h
          simp only [goneU, List.map_cons, upH] at h
          split at h
          · cases h
          · rename_i hb
            obtain ⟨h1, h2⟩ := ih h
            exact ⟨fun hm => by rcases List.mem_cons.1 hm with rfl | hm; exact beq_false hb rfl; exact h1 hm, h2⟩
      exact .inr (hnot _ h)
    · left
      obtain ⟨p, hp, hpe⟩ := List.mem_map.1 h
      simp only [Prod.mk.injEq] at hpe
      obtain ⟨hj, ho⟩ := hpe
      obtain ⟨i, o2⟩ := p
      simp only at hj ho
      subst ho
      obtain ⟨_, _, _, _, h4⟩ := argsO_plain _ _ (argsB_sub hp)
      have hi : i < q.2.length := by omega
      have hget : q.2[i]? = some j := by
        rw [List.getElem?_eq_getElem hi, ← hj]
        congr 1
        simp [List.getD_eq_getElem?_getD, hi]
      exact ⟨i, .inr ⟨hlt j (List.mem_of_getElem? hget), hget⟩, upH_of_mem hu (List.mem_append.2 (.inr hp))⟩
  · left
    obtain ⟨_, _, _, h3, h4⟩ := resO_plain _ _ h
    obtain ⟨d, rfl⟩ : ∃ d, j = nx + d := ⟨j - nx, by omega⟩
    refine ⟨cntA E C.ps + d, .inl ⟨h3, h4, by omega⟩, upH_of_mem hu (List.mem_append.2 (.inl (resO_shift h)))⟩
theorem ownO_cov {m : Mk} : ∀ {ts : List Ty} {h : HL E.S ts} {n i : Nat}, n ≤ i → i < n + cntO m ts → ∃ o, (i, o) ∈ ownO E m ts h n := by
  induction m with
  | nil => intro ts h n i h1 h2; cases ts <;> simp [cntO] at h2 <;> omega
  | cons a m ih =>
    intro ts h n i h1 h2
    cases ts with
    | nil => cases a <;> simp [cntO] at h2 <;> omega
    | cons t ts =>
      cases a with
      | none => simp only [cntO] at h2; simp only [ownO]; exact ih h1 h2
      | some e =>
        cases t with
        | sl t =>
          simp only [cntO] at h2
          simp only [ownO, List.mem_cons, Prod.mk.injEq]
          by_cases hin : i = n
          · exact ⟨_, .inl ⟨hin, rfl⟩⟩
          · obtain ⟨o, ho⟩ := ih (h := h.2) (n := n + 1) (i := i) (by omega) (by omega)
            exact ⟨o, .inr ho⟩
        | _ => simp [cntO] at h2 <;> omega
theorem argsO_cov : ∀ {ps : List Pm} {a : PA E ps} {n i : Nat}, n ≤ i → i < n + cntA E ps → ∃ o, (i, o) ∈ argsO E ps a n := by
  intro ps
  induction ps with
  | nil => intro a n i h1 h2; simp [cntA] at h2; omega
  | cons p ps ih =>
    intro a n i h1 h2
    cases p with
    | l t m =>
      simp only [cntA] at h2
      simp only [argsO, List.mem_append]
      by_cases hin : i < n + cntO m (E.flat t)
      · obtain ⟨o, ho⟩ := ownO_cov (h := E.fl t a.1) h1 hin
        exact ⟨o, .inl ho⟩
      · obtain ⟨o, ho⟩ := ih (a := a.2) (n := n + cntO m (E.flat t)) (i := i) (by omega) (by omega)
        exact ⟨o, .inr ho⟩
    | g t m =>
      simp only [cntA] at h2
      simp only [argsO, List.mem_append]
      by_cases hin : i < n + cntO m (E.flat t)
      · obtain ⟨o, ho⟩ := ownO_cov (h := E.fl t a.1) h1 hin
        exact ⟨o, .inl ho⟩
      · obtain ⟨o, ho⟩ := ih (a := a.2) (n := n + cntO m (E.flat t)) (i := i) (by omega) (by omega)
        exact ⟨o, .inr ho⟩
    | b T t =>
      simp only [cntA] at h2
      simp only [argsO, List.mem_cons, Prod.mk.injEq]
      by_cases hin : i = n
      · exact ⟨_, .inl ⟨hin, rfl⟩⟩
      · obtain ⟨o, ho⟩ := ih (a := a.2) (n := n + 1) (i := i) (by omega) (by omega)
        exact ⟨o, .inr ho⟩
    | mp T k v =>
      simp only [cntA] at h2
      simp only [argsO, List.mem_cons, Prod.mk.injEq]
      by_cases hin : i = n
      · exact ⟨_, .inl ⟨hin, rfl⟩⟩
      · obtain ⟨o, ho⟩ := ih (a := a.2) (n := n + 1) (i := i) (by omega) (by omega)
        exact ⟨o, .inr ho⟩
    | d t => exact ih (a := a.2) h1 h2
    | p t => exact ih (a := a.2) h1 h2
    | f1 x r => exact ih (a := a.2) h1 h2
    | f2 x y r => exact ih (a := a.2) h1 h2
/-- Does the function turn memory that is handed to it? -/
def lends : List Pm → Bool
  | [] => false
  | .l _ _ :: _ => true
  | .g _ _ :: _ => true
  | .b _ _ :: _ => true
  | .mp _ _ _ :: _ => true
  | _ :: ps => lends ps
def lendsB (tab : Tab E) (f : FuncId) : Bool := match tab f with
  | some C => lends C.ps
  | none => true
theorem takeA_own {tab : Tab E} : ∀ {ps : List Pm} {xs : List (V1 E)} {q : PA E ps × List Nat}, lends ps = false → takeA E tab H ps xs = some q → q.2 = [] := by
  intro ps
  induction ps with
  | nil =>
    intro xs q _ h
    cases xs with
    | nil => simp only [takeA, Option.some.injEq] at h; subst h; rfl
    | cons x xs => simp [takeA] at h
  | cons p ps ih =>
    intro xs q hl h
    cases xs with
    | nil => cases p <;> simp [takeA] at h
    | cons x xs =>
      cases p with
      | l t m => cases hl
      | g t m => cases hl
      | b T t => cases hl
      | mp T k v => cases hl
      | d t =>
        simp only [takeA] at h
        split at h
        · rename_i d q' hd hq
          obtain rfl := Option.some.inj h
          exact ih hl hq
        · cases h
      | p t =>
        cases x with
        | agg l => simp [takeA] at h
        | one c =>
          cases c with
          | elf t' x' off =>
            cases off with
            | succ off => simp [takeA] at h
            | zero =>
              simp only [takeA] at h
              split at h
              · split at h
                · rename_i q' hq
                  obtain rfl := Option.some.inj h
                  exact ih hl hq
                · cases h
              · cases h
          | ptr id off =>
            cases off with
            | succ off => simp [takeA] at h
            | zero =>
              simp only [takeA] at h
              split at h
              · split at h
                · split at h
                  · rename_i q' hq
                    obtain rfl := Option.some.inj h
                    exact ih hl hq
                  · cases h
                · cases h
              · cases h
          | _ => simp [takeA] at h
      | f1 x1 r1 =>
        cases x with
        | agg l => simp [takeA] at h
        | one c =>
          simp only [takeA] at h
          split at h
          · rename_i f q' hf hq
            obtain rfl := Option.some.inj h
            exact ih hl hq
          · cases h
      | f2 x1 y1 r1 =>
        cases x with
        | agg l => simp [takeA] at h
        | one c =>
          simp only [takeA] at h
          split at h
          · rename_i f q' hf hq
            obtain rfl := Option.some.inj h
            exact ih hl hq
          · cases h
theorem lCall_ok2 {tab : Tab E} (ht : tab.OK P E) {f : FuncId} {xs : List (V1 E)} {vs : List Value} {R : Type} {k : Option (SV E) → Chs E → Option R} {r : R} (hnx : Fresh g nx) (hv : All2 (R1 P E z g) xs vs) (h : lCall E tab H nx f xs k = some r) :
    bodyB P f = true ∧ ∃ s u, k (some s) u = some r ∧ ∀ (Bs : List Nat) (F0 : Nat → Prop) (w0 w : World), HR P E Bs F0 w0 w z g H → Ret P f vs.toArray w fun v w' => ∃ z2 g2, z.Le z2 ∧ g.Le g2 ∧ Fresh g2 (nx + 1 + u.length) ∧ RV P E z2 g2 s v ∧ HR P E Bs F0 w0 w' z2 g2 (upH H u) ∧ (lendsB tab f = false → Ext w w') := by
  unfold lCall at h
  split at h
  · cases h
  · rename_i C hC
    obtain ⟨hok, hbody⟩ := ht f C hC
    refine ⟨hbody, ?_⟩
    split at h
    · cases h
    · rename_i q hq
      split at h
      · cases h
      · rename_i hn
        obtain ⟨rh, bh, hk, hcall⟩ := hok _ _ _ _ h
        obtain ⟨svr2, hres2, u, hu, hk⟩ : ∃ svr2, resV E C.rs rh nx = some svr2 ∧ ∃ u, ((C.ali = true ∧ u = callU E C nx q rh bh ++ frzP E H C.ps xs) ∨ (C.ali = false ∧ (flatRs E C.rs && flatPs E C.ps) = true ∧ u = callU E C nx q rh bh)) ∧ k (some (oneV E svr2)) u = some r := by
          split at hk
          · cases hk
          · rename_i svr2 hres2
            split at hk
            · rename_i hal; exact ⟨svr2, hres2, _, .inl ⟨hal, rfl⟩, hk⟩
            · rename_i hal
              split at hk
              · rename_i hfl; exact ⟨svr2, hres2, _, .inr ⟨hal, hfl, rfl⟩, hk⟩
              · cases hk
        refine ⟨_, u, hk, fun Bs F0 w0 w hH => ?_⟩
        obtain ⟨z1, hz1, hH1⟩ := frzP_ok hH C.ps xs
        obtain ⟨⟨svs, e1, e2⟩, e3, e4⟩ := takeA_ok ht hH1 (I := q.2) (n := 0) hq (fun j id hj => by rw [Nat.zero_add]; exact hj) (hv.mono fun _ _ h => R1.le h hz1 (Ga.Le.refl g))
        have hent := hH1.entry hn e3
        have hfr : Fresh (gOf g q.2) (cntA E C.ps) := fun i hi => by
          unfold gOf
          rw [List.getElem?_eq_none (by omega)]
        have hret := hcall w z1 _ _ svs vs e1 hent hfr e2
        refine hret.mono fun v w' ⟨z', g1, svr, hz', hali, hg1, hres, hrv, hx⟩ => ?_
        have hid : ∀ id ∈ q.2, ∃ l, g id = some l := fun id hid => by
          obtain ⟨i, hi⟩ := List.mem_iff_getElem?.1 hid
          have hil : i < cntA E C.ps := by rw [← e4]; exact (List.getElem?_eq_some_iff.1 hi).1
          by_cases hgi : ∃ l, g id = some l
          · exact hgi
          · exfalso
            obtain ⟨o, ho⟩ := argsO_cov (a := q.1) (n := 0) (i := i) (Nat.zero_le _) (by omega)
            obtain ⟨id', o1, _, h5, h6, _⟩ := e3 i o ho
            rw [hi] at h5
            obtain rfl := Option.some.inj h5
            exact hgi (hH1.hold _ _ h6).loc
        have hlt : ∀ id ∈ q.2, id < nx := fun id hid' => by
          obtain ⟨l, hl⟩ := hid id hid'
          rcases Nat.lt_or_ge id nx with h5 | h5
          · exact h5
          · rw [hnx id h5] at hl; cases hl
        -- the numbers behind the call
        let g2 : Ga := fun j => if nx ≤ j ∧ j < nx + cntR E C.rs then g1 (cntA E C.ps + (j - nx)) else g j
        have hg2 : g.Le g2 := fun j l hj => by
          have : j < nx := by
            rcases Nat.lt_or_ge j nx with h5 | h5
            · exact h5
            · rw [hnx j h5] at hj; cases hj
          show (if _ then _ else g j) = _
          rw [if_neg (by omega)]; exact hj
        have hfr2 : Fresh g2 (nx + cntR E C.rs) := fun j hj => by
          show (if _ then _ else g j) = _
          rw [if_neg (by omega)]; exact hnx j (by omega)
        have hmv : ∀ i l, i < cntR E C.rs → g1 (cntA E C.ps + i) = some l → g2 (nx + i) = some l := fun i l hlt hi => by
          show (if _ then _ else g _) = _
          rw [if_pos ⟨by omega, by omega⟩, show cntA E C.ps + (nx + i - nx) = cntA E C.ps + i by omega]
          exact hi
        let s : Nat → Nat → Prop := fun j i => (nx ≤ j ∧ j < nx + cntR E C.rs ∧ i = cntA E C.ps + (j - nx)) ∨ (j < nx ∧ q.2[i]? = some j)
        have hs : ∀ j j' i, s j i → s j' i → j = j' := fun j j' i h1 h2 => by
          rcases h1 with ⟨a1, a2, a3⟩ | ⟨a1, a2⟩ <;> rcases h2 with ⟨b1, b2, b3⟩ | ⟨b1, b2⟩
          · omega
          · have := (List.getElem?_eq_some_iff.1 b2).1; omega
          · have := (List.getElem?_eq_some_iff.1 a2).1; omega
          · rw [a2] at b2; exact Option.some.inj b2
        have hsg : ∀ j i, s j i → g2 j = g1 i := fun j i h1 => by
          rcases h1 with ⟨a1, a2, rfl⟩ | ⟨a1, a2⟩
          · show (if _ then _ else g _) = _
            rw [if_pos ⟨a1, a2⟩]
          · obtain ⟨l, hl⟩ := hid j (List.mem_of_getElem? a2)
            rw [hg2 j l hl]
            exact (hg1 i l (by unfold gOf; rw [a2]; exact hl)).symm
        have hpl : ∀ i o, upH (fun _ => none) (resO E C.rs rh (cntA E C.ps) ++ argsB E C.ps (putB E C.ps q.1 bh) 0) i = some o → Plain E o := fun i o ho => by
          rcases List.mem_append.1 (upH_mem ho) with h1 | h1
          · obtain ⟨p, hp, hp2, _⟩ := resO_plain _ _ h1
            obtain rfl := Option.some.inj hp
            exact hp2
          · obtain ⟨p, hp, hp2, _⟩ := argsO_plain _ _ (argsB_sub h1)
            obtain rfl := Option.some.inj hp
            exact hp2
        have hlen : cntR E C.rs ≤ (callU E C nx q rh bh).length := by
          unfold callU
          rw [List.length_append, resO_len]
          omega
        have hext : lendsB tab f = false → Ext w w' := fun hl => by
          have hq0 : q.2 = [] := takeA_own (by simpa only [lendsB, hC] using hl) hq
          have hchg := hx.chg
          rw [hq0] at hchg
          exact Ext.of_below (Chg.below hchg)
        · rcases hu with ⟨hal, rfl⟩ | ⟨hal, hfl, rfl⟩
          · refine ⟨z', g2, hz1.trans hz', hg2, fun j hj => hfr2 j (by simp only [List.length_append] at hj; omega), ?_, ?_, hext⟩
            · exact oneV_move (resV_len hres hres2) hrv fun vs hvs => resV_move hres hres2 hvs hmv (.inl rfl)
            · rw [← upH_append]
              refine hH1.back (s := s) hx (fun k hk => ?_) hg2 (fun j o hj => callU_look e4 hlt hj) hs (fun j i o h1 h2 => (hx.hold i o h2).move (hpl i o h2) (.inl rfl) (hsg j i h1)) hz' hx.fz fun k hk => ?_
              · obtain ⟨i, id, o, h1, h2, h3⟩ := mem_blks hk
                exact ⟨id, o, List.mem_of_getElem? h1, h2, h3⟩
              · rcases hx.fz0 k hk with h1 | h1 | h1
                · exact .inl h1
                · exact .inr ⟨.inl h1, hk⟩
                · exact .inr ⟨.inr h1, hk⟩
          · · simp only [Bool.and_eq_true] at hfl
              obtain rfl := hali hal
              have hzin : z.In w' := fun k hk => by
                have h1 := hx.fz k (hz1 k hk).1
                exact ⟨h1.1, h1.2.trans (hz1 k hk).2⟩
              refine ⟨z, g2, Fz.Le.refl z, hg2, fun j hj => hfr2 j (by omega), ?_, ?_, hext⟩
              · exact oneV_move (resV_len hres hres2) hrv fun vs hvs => resV_move hres hres2 hvs hmv (.inr hfl.1)
              · refine hH.back (s := s) hx (fun k hk => ?_) hg2 (fun j o hj => callU_look e4 hlt hj) hs (fun j i o h1 h2 => (hx.hold i o h2).move (hpl i o h2) (.inr ?_) (hsg j i h1)) (Fz.Le.refl z) hzin fun k hk => .inl hk
                · obtain ⟨i, id, o, h1, h2, h3⟩ := mem_blks hk
                  refine ⟨id, o, List.mem_of_getElem? h1, ?_, h3⟩
                  rcases upH_or h2 with h4 | h4
                  · exact h4
                  · rcases frzP_only H C.ps xs _ _ h4 with ⟨t, ys, h5⟩ | ⟨t, y, h5⟩
                    · obtain rfl := Option.some.inj h5; exact h3.elim
                    · obtain rfl := Option.some.inj h5; exact h3.elim
                · rcases List.mem_append.1 (upH_mem h2) with h3 | h3
                  · obtain ⟨p, hp, hp2⟩ := resO_flat hfl.1 _ _ h3
                    obtain rfl := Option.some.inj hp
                    exact hp2
                  · obtain ⟨p, hp, hp2⟩ := argsB_flat hfl.2 _ _ h3
                    obtain rfl := Option.some.inj hp
                    exact hp2
theorem lCall_ok {tab : Tab E} (ht : tab.OK P E) {f : FuncId} {xs : List (V1 E)} {vs : List Value} {R : Type} {k : Option (SV E) → Chs E → Option R} {r : R} (hnx : Fresh g nx) (hH : HR P E Bs F0 w0 w z g H) (hv : All2 (R1 P E z g) xs vs) (h : lCall E tab H nx f xs k = some r) :
    bodyB P f = true ∧ Ret P f vs.toArray w fun v w' => ∃ s u z2 g2, k (some s) u = some r ∧ z.Le z2 ∧ g.Le g2 ∧ Fresh g2 (nx + 1 + u.length) ∧ RV P E z2 g2 s v ∧ HR P E Bs F0 w0 w' z2 g2 (upH H u) ∧ (lendsB tab f = false → Ext w w') := by
  obtain ⟨hb, s, u, hk, hret⟩ := lCall_ok2 ht hnx hv h
  exact ⟨hb, (hret Bs F0 w0 w hH).mono fun v w' ⟨z2, g2, h1, h2, h3, h4, h5, h6⟩ => ⟨s, u, z2, g2, hk, h1, h2, h3, h4, h5, h6⟩⟩
end
end Rt
end Go
