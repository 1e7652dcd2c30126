/-
 What the statements of this seat hang on, part 3: Rn Ro Rr Dr Rp Rq Sa Sb Sq Sr.
-/
import Derived.Test.YtolgkhjkdadhiaaGreatYC2
namespace Go
namespace Rt
open Go.RowKit
section
variable {P : Program} {E : TE} {z z' : Fz} {g g' : Ga} {nx : Nat} {w w' w0 : World} {H H' : Nat → Option (Obj E)} {Bs : List Nat} {F0 : Nat → Prop}
def UniqK (l : Chs E) : Prop := ∀ i o o', (i, o) ∈ l → (i, o') ∈ l → o = o'
theorem oF_ {i : Nat} {o : Option (Obj E)} : ∀ {l : Chs E}, UniqK l → (i, o) ∈ l → upH H l i = o
 | [], _, h => by cases h
 | (j, p) :: l, hu, h => by
  simp only [upH]
  split
  ·rename_i hb
   obtain rfl := Nat.eq_of_beq_eq_true hb
   exact hu i p o (List.mem_cons_self ..) h
  ·rename_i hb
   have hne := cO_ hb
   refine oF_ (fun a b c h1 h2 => hu a b c (List.mem_cons_of_mem _ h1) (List.mem_cons_of_mem _ h2)) ?_
   rcases List.mem_cons.1 h with h | h
   ·simp only [Prod.mk.injEq] at h; exact absurd h.1 hne
   ·exact h
theorem UniqK.append {l m : Chs E} (hl : UniqK l) (hm : UniqK m) (hd : ∀ i o o', (i, o) ∈ l → (i, o') ∈ m → False) : UniqK (l ++ m) := fun i o o' h h' => by
 rcases List.mem_append.1 h with h | h <;> rcases List.mem_append.1 h' with h' | h'
 ·exact hl i o o' h h'
 ·exact (hd i o o' h h').elim
 ·exact (hd i o' o h' h).elim
 ·exact hm i o o' h h'
theorem g5_ {m : Mk} : ∀ {ts : List Ty} {h : HL E.S ts} {n : Nat}, UniqK (bf_ E m ts h n) := by
 induction m with
 | nil => intro ts h n i o o' ho; cases ts <;> simp [bf_] at ho
 | cons a m ih =>
  intro ts h n
  cases ts with
  | nil => intro i o o' ho; cases a <;> simp [bf_] at ho
  | cons t ts =>
   cases a with
   | none => simp only [bf_]; exact ih
   | some e =>
    cases t with
    | sl t =>
     simp only [bf_]
     intro i o o' h1 h2
     simp only [List.mem_cons, Prod.mk.injEq] at h1 h2
     rcases h1 with ⟨rfl, rfl⟩ | h1 <;> rcases h2 with ⟨h2, rfl⟩ | h2
     ·rfl
     ·obtain ⟨_, _, _, h3, _⟩ := bn_ _ _ h2; omega
     ·obtain ⟨_, _, _, h3, _⟩ := bn_ _ _ h1; omega
     ·exact ih i o o' h1 h2
    | _ => intro i o o' ho; simp [bf_] at ho
theorem resO_uniq : ∀ {rs : Rs} {h : HL E.S rs.ts} {n : Nat}, UniqK (cH_ E rs h n)
 | [], h, n => fun i o o' ho => by simp [cH_] at ho
 | (t, m) :: rs, h, n => by
  simp only [cH_]
  refine UniqK.append g5_ resO_uniq fun i o o' h1 h2 => ?_
  obtain ⟨_, _, _, _, h3⟩ := bn_ _ _ h1
  obtain ⟨_, _, _, h4, _⟩ := eL_ _ _ h2
  omega
theorem dt_ : ∀ {ps : List Pm} {a : PA E ps} {n : Nat}, UniqK (bk_ E ps a n)
 | [], a, n => fun i o o' ho => by simp [bk_] at ho
 | .l t m :: ps, a, n => by
  simp only [bk_]
  refine UniqK.append g5_ (dt_ (ps := ps)) fun i o o' h1 h2 => ?_
  obtain ⟨_, _, _, _, h3⟩ := bn_ _ _ h1
  have h4 := (b5_ (ps := ps) _ _ h2).1
  omega
 | .g t m :: ps, a, n => by
  simp only [bk_]
  refine UniqK.append g5_ (dt_ (ps := ps)) fun i o o' h1 h2 => ?_
  obtain ⟨_, _, _, _, h3⟩ := bn_ _ _ h1
  have h4 := (b5_ (ps := ps) _ _ h2).1
  omega
 | .b T t :: ps, a, n => by
  simp only [bk_]
  intro i o o' h1 h2
  simp only [List.mem_cons, Prod.mk.injEq] at h1 h2
  rcases h1 with ⟨rfl, rfl⟩ | h1 <;> rcases h2 with ⟨h2, rfl⟩ | h2
  ·rfl
  ·have := (b5_ (ps := ps) _ _ h2).1; omega
  ·have := (b5_ (ps := ps) _ _ h1).1; omega
  ·exact dt_ (ps := ps) i o o' h1 h2
 | .bm T t m :: ps, a, n => by
  simp only [bk_]
  refine UniqK.append (l := [(n, some (.box T (bU_ E m (E.flat t) (E.fl t a.1) (n + 1))))]) (fun i o o' h1 h2 => ?_) (UniqK.append g5_ (dt_ (ps := ps)) fun i o o' h1 h2 => ?_) fun i o o' h1 h2 => ?_
  ·simp only [List.mem_singleton, Prod.mk.injEq] at h1 h2
   rw [h1.2, h2.2]
  ·obtain ⟨_, _, _, _, h3⟩ := bn_ _ _ h1
   have := (b5_ (ps := ps) _ _ h2).1
   omega
  ·simp only [List.mem_singleton, Prod.mk.injEq] at h1
   rcases List.mem_append.1 h2 with h2 | h2
   ·obtain ⟨_, _, _, h3, _⟩ := bn_ _ _ h2
    omega
   ·have := (b5_ (ps := ps) _ _ h2).1
    omega
 | .mp T k v :: ps, a, n => by
  simp only [bk_]
  intro i o o' h1 h2
  simp only [List.mem_cons, Prod.mk.injEq] at h1 h2
  rcases h1 with ⟨rfl, rfl⟩ | h1 <;> rcases h2 with ⟨h2, rfl⟩ | h2
  ·rfl
  ·have := (b5_ (ps := ps) _ _ h2).1; omega
  ·have := (b5_ (ps := ps) _ _ h1).1; omega
  ·exact dt_ (ps := ps) i o o' h1 h2
 | .d t :: ps, a, n => dt_ (ps := ps) (a := a.2)
 | .p t :: ps, a, n => dt_ (ps := ps) (a := a.2)
 | .f1 x r :: ps, a, n => dt_ (ps := ps) (a := a.2)
 | .f2 x y r :: ps, a, n => dt_ (ps := ps) (a := a.2)
theorem ownO_shift {m : Mk} : ∀ {ts : List Ty} {h : HL E.S ts} {n n' d : Nat} {o : Option (Obj E)}, (n + d, o) ∈ bf_ E m ts h n → (n' + d, o) ∈ bf_ E m ts h n' := by
 induction m with
 | nil => intro ts h n n' d o ho; cases ts <;> simp [bf_] at ho
 | cons a m ih =>
  intro ts h n n' d o ho
  cases ts with
  | nil => cases a <;> simp [bf_] at ho
  | cons t ts =>
   cases a with
   | none => simp only [bf_] at ho ⊢; exact ih ho
   | some e =>
    cases t with
    | sl t =>
     simp only [bf_, List.mem_cons, Prod.mk.injEq] at ho ⊢
     rcases ho with ⟨h1, rfl⟩ | ho
     ·exact .inl ⟨by omega, rfl⟩
     ·right
      obtain ⟨_, _, _, h3, _⟩ := bn_ _ _ ho
      obtain ⟨d', rfl⟩ : ∃ d', d = d' + 1 := ⟨d - 1, by omega⟩
      rw [show n + (d' + 1) = n + 1 + d' by omega] at ho
      rw [show n' + (d' + 1) = n' + 1 + d' by omega]
      exact ih ho
    | _ => simp [bf_] at ho
theorem resO_shift : ∀ {rs : Rs} {h : HL E.S rs.ts} {n n' d : Nat} {o : Option (Obj E)}, (n + d, o) ∈ cH_ E rs h n → (n' + d, o) ∈ cH_ E rs h n'
 | [], h, n, n', d, o, ho => by simp [cH_] at ho
 | (t, m) :: rs, h, n, n', d, o, ho => by
  simp only [cH_, List.mem_append] at ho ⊢
  rcases ho with ho | ho
  ·exact .inl (ownO_shift ho)
  ·right
   obtain ⟨_, _, _, h3, _⟩ := eL_ _ _ ho
   obtain ⟨d', rfl⟩ : ∃ d', d = aF_ m (E.flat t) + d' := ⟨d - aF_ m (E.flat t), by omega⟩
   rw [← Nat.add_assoc] at ho ⊢
   exact resO_shift ho
theorem ownO_len {m : Mk} : ∀ {ts : List Ty} {h : HL E.S ts} {n : Nat}, (bf_ E m ts h n).length = aF_ m ts := by
 induction m with
 | nil => intro ts h n; cases ts <;> simp [bf_, aF_]
 | cons a m ih =>
  intro ts h n
  cases ts with
  | nil => cases a <;> simp [bf_, aF_]
  | cons t ts =>
   cases a with
   | none => simp only [bf_, aF_]; exact ih
   | some e =>
    cases t with
    | sl t => simp only [bf_, aF_, List.length_cons, ih]
    | _ => simp [bf_, aF_]
theorem resO_len : ∀ {rs : Rs} {h : HL E.S rs.ts} {n : Nat}, (cH_ E rs h n).length = ct_ E rs
 | [], h, n => rfl
 | (t, m) :: rs, h, n => by simp only [cH_, ct_, List.length_append, ownO_len, resO_len]
theorem resO_in {rs : Rs} {h : HL E.S rs.ts} {n i : Nat} {o : Option (Obj E)} (ho : (i, o) ∈ cH_ E rs h n) : n ≤ i ∧ i < n + ct_ E rs := by
 obtain ⟨_, _, _, h1, h2⟩ := eL_ _ _ ho
 exact ⟨h1, h2⟩
theorem gO_ {ps : List Pm} {a : PA E ps} {n k i : Nat} {o : Option (Obj E)} (ho : (i, o) ∈ aU_ E ps a n k) : (n ≤ i ∧ i < n + ar_ E ps) ∨ (k ≤ i ∧ i < k + db_ E ps) := by
 obtain ⟨_, _, _, h1⟩ := ca_ _ _ ho
 exact h1
theorem c7_ : ∀ {ps : List Pm} {a : PA E ps} {n k : Nat}, n + ar_ E ps ≤ k → UniqK (aU_ E ps a n k)
 | [], a, n, k, _ => fun i o o' ho => by simp [aU_] at ho
 | .l t m :: ps, a, n, k, hk => by
  simp only [ar_] at hk
  simp only [aU_]
  refine UniqK.append g5_ (c7_ (ps := ps) (by omega)) fun i o o' h1 h2 => ?_
  obtain ⟨_, _, _, _, h3⟩ := bn_ _ _ h1
  have := gO_ (ps := ps) h2
  omega
 | .g t m :: ps, a, n, k, hk => by
  simp only [ar_] at hk
  exact c7_ (ps := ps) (a := a.2) (by omega)
 | .b T t :: ps, a, n, k, hk => by
  simp only [ar_] at hk
  simp only [aU_]
  refine UniqK.append (l := [(n, some (.box T (E.cells t a.1)))]) (fun i o o' h1 h2 => ?_) (c7_ (ps := ps) (by omega)) fun i o o' h1 h2 => ?_
  ·simp only [List.mem_singleton, Prod.mk.injEq] at h1 h2
   rw [h1.2, h2.2]
  ·simp only [List.mem_singleton, Prod.mk.injEq] at h1
   have := gO_ (ps := ps) h2
   omega
 | .bm T t m :: ps, a, n, k, hk => by
  simp only [ar_] at hk
  simp only [aU_]
  refine UniqK.append (l := [(n, some (.box T (bU_ E m (E.flat t) (E.fl t a.1) k)))]) (fun i o o' h1 h2 => ?_) (UniqK.append g5_ (c7_ (ps := ps) (by omega)) fun i o o' h1 h2 => ?_) fun i o o' h1 h2 => ?_
  ·simp only [List.mem_singleton, Prod.mk.injEq] at h1 h2
   rw [h1.2, h2.2]
  ·obtain ⟨_, _, _, h3, h4⟩ := bn_ _ _ h1
   have := gO_ (ps := ps) h2
   omega
  ·simp only [List.mem_singleton, Prod.mk.injEq] at h1
   rcases List.mem_append.1 h2 with h2 | h2
   ·obtain ⟨_, _, _, h3, _⟩ := bn_ _ _ h2
    omega
   ·have := gO_ (ps := ps) h2
    omega
 | .mp T kt v :: ps, a, n, k, hk => by
  simp only [ar_] at hk
  simp only [aU_]
  refine UniqK.append (l := [(n, some (.map T kt v a.1.1 a.1.2 []))]) (fun i o o' h1 h2 => ?_) (c7_ (ps := ps) (by omega)) fun i o o' h1 h2 => ?_
  ·simp only [List.mem_singleton, Prod.mk.injEq] at h1 h2
   rw [h1.2, h2.2]
  ·simp only [List.mem_singleton, Prod.mk.injEq] at h1
   have := gO_ (ps := ps) h2
   omega
 | .d t :: ps, a, n, k, hk => c7_ (ps := ps) (a := a.2) hk
 | .p t :: ps, a, n, k, hk => c7_ (ps := ps) (a := a.2) hk
 | .f1 x r :: ps, a, n, k, hk => c7_ (ps := ps) (a := a.2) hk
 | .f2 x y r :: ps, a, n, k, hk => c7_ (ps := ps) (a := a.2) hk
theorem dB_ : ∀ {ps : List Pm} {a : PA E ps} {n k : Nat}, db_ E ps ≤ (aU_ E ps a n k).length
 | [], _, _, _ => Nat.le_refl _
 | .l t m :: ps, a, n, k => by
  simp only [aU_, List.length_append, db_]
  have := dB_ (ps := ps) (a := a.2) (n := n + aF_ m (E.flat t)) (k := k)
  omega
 | .g t m :: ps, a, n, k => dB_ (ps := ps) (a := a.2)
 | .b T t :: ps, a, n, k => by
  simp only [aU_, List.length_cons, db_]
  have := dB_ (ps := ps) (a := a.2) (n := n + 1) (k := k)
  omega
 | .bm T t m :: ps, a, n, k => by
  simp only [aU_, List.length_cons, List.length_append, db_, ownO_len]
  have := dB_ (ps := ps) (a := a.2) (n := n + 1 + aF_ m (E.flat t)) (k := k + aF_ m (E.flat t))
  omega
 | .mp T kt v :: ps, a, n, k => by
  simp only [aU_, List.length_cons, db_]
  have := dB_ (ps := ps) (a := a.2) (n := n + 1) (k := k)
  omega
 | .d t :: ps, a, n, k => dB_ (ps := ps) (a := a.2)
 | .p t :: ps, a, n, k => dB_ (ps := ps) (a := a.2)
 | .f1 x r :: ps, a, n, k => dB_ (ps := ps) (a := a.2)
 | .f2 x y r :: ps, a, n, k => dB_ (ps := ps) (a := a.2)
theorem ownC_move {m : Mk} : ∀ {ts : List Ty} {h : HL E.S ts} {n n' : Nat} {v : List Value}, All2 (RC P E z g) (bU_ E m ts h n) v → (∀ i l, i < aF_ m ts → g (n + i) = some l → g' (n' + i) = some l) → (z = z' ∨ fW_ E m ts = true) → All2 (RC P E z' g') (bU_ E m ts h n') v := by
 have key : ∀ {ts : List Ty} {h : HL E.S ts} {v : List Value}, All2 (RC P E z g) (hlc E ts h) v → (z = z' ∨ ts.all Ty.flatB = true) → All2 (RC P E z' g') (hlc E ts h) v := by
  intro ts h v hv hz
  rcases hz with rfl | hz
  ·exact hlc_rd.1 (hlc_rd.2 hv)
  ·exact hlc_rd.1 ((hlc_rd.2 hv).flat hz)
 induction m with
 | nil =>
  intro ts h n n' v hv hg hz
  cases ts with
  | nil => simp only [bU_] at hv ⊢; exact key hv (hz.imp id fun h => h)
  | cons t ts => simp only [bU_] at hv ⊢; exact key hv (hz.imp id fun h => h)
 | cons a m ih =>
  intro ts h n n' v hv hg hz
  cases ts with
  | nil => cases a <;> simp only [bU_] at hv ⊢ <;> exact key hv (.inr rfl)
  | cons t ts =>
   cases a with
   | none =>
    simp only [bU_] at hv ⊢
    cases hv with
    | cons h1 h2 =>
     simp only [fW_, Bool.and_eq_true] at hz
     refine .cons ?_ (ih h2 hg (hz.imp id And.right))
     rcases hz with rfl | hz
     ·exact h1
     ·exact RD.flat (ts := [t]) (by simp [hz.1]) h1
   | some e =>
    cases t with
    | sl t =>
     simp only [bU_] at hv ⊢
     cases hv with
     | cons h1 h2 =>
      obtain ⟨l, h3, h4⟩ := h1
      simp only [fW_, Bool.and_eq_true] at hz
      refine .cons ⟨l, hg 0 l (by simp only [aF_]; omega) h3, h4⟩ (ih h2 (fun i l hi' hi => ?_) (hz.imp id And.right))
      have := hg (i + 1) l (by simp only [aF_]; omega) (by rw [show n + (i + 1) = n + 1 + i by omega]; exact hi)
      rwa [show n' + (i + 1) = n' + 1 + i by omega] at this
    | _ => simp only [bU_] at hv ⊢; exact key hv (hz.imp id fun h => h)
theorem asV_move {t : Ty} {l l' : List (SC E)} {x x' : V1 E} {v : Value} (h : asV E t l = some x) (h' : asV E t l' = some x') (hr : R1 P E z g x v) (hm : ∀ vs, All2 (RC P E z g) l vs → All2 (RC P E z' g') l' vs) : R1 P E z' g' x' v := by
 have one : ∀ c d, l = [c] → l' = [d] → RC P E z g c v → RC P E z' g' d v := fun c d e e' hc => by
  subst e; subst e'
  have := hm [v] (.cons hc .nil)
  cases this with
  | cons h _ => exact h
 cases t with
 | st n =>
  simp only [asV, Option.some.injEq] at h h'
  subst h; subst h'
  obtain ⟨vs, rfl, hr⟩ := hr
  exact ⟨vs, rfl, hm vs hr⟩
 | _ =>
  cases l with
  | nil => simp [asV] at h
  | cons c l =>
   cases l with
   | cons d l => simp [asV] at h
   | nil =>
    cases l' with
    | nil => simp [asV] at h'
    | cons c' l' =>
     cases l' with
     | cons d l => simp [asV] at h'
     | nil =>
      simp only [asV, Option.some.injEq] at h h'
      subst h; subst h'
      exact one c c' rfl rfl hr
theorem ke_ : ∀ {rs : Rs} {h : HL E.S rs.ts} {n n' : Nat} {l l' : List (V1 E)} {vs : List Value}, resV E rs h n = some l → resV E rs h n' = some l' → All2 (R1 P E z g) l vs → (∀ i l, i < ct_ E rs → g (n + i) = some l → g' (n' + i) = some l) → (z = z' ∨ hf_ E rs = true) → All2 (R1 P E z' g') l' vs
 | [], h, n, n', l, l', vs, e, e', hr, _, _ => by
  simp only [resV, Option.some.injEq] at e e'
  subst e; subst e'
  cases hr
  exact .nil
 | (t, m) :: rs, h, n, n', l, l', vs, e, e', hr, hg, hz => by
  simp only [resV] at e e'
  split at e
  ·rename_i x q hx hq
   obtain rfl := Option.some.inj e
   split at e'
   ·rename_i x' q' hx' hq'
    obtain rfl := Option.some.inj e'
    simp only [hf_, Bool.and_eq_true] at hz
    cases hr with
    | cons h1 h2 =>
     refine .cons (asV_move hx hx' h1 fun vs hvs => ownC_move hvs (fun i l hi => hg i l (by simp only [ct_]; omega)) (hz.imp id And.left)) (ke_ hq hq' h2 (fun i l hi' hi => ?_) (hz.imp id And.right))
     rw [Nat.add_assoc] at hi ⊢
     exact hg _ l (by simp only [ct_]; omega) hi
   ·cases e'
  ·cases e
theorem nQ_ : ∀ {rs : Rs} {h : HL E.S rs.ts} {n n' : Nat} {l l' : List (V1 E)}, resV E rs h n = some l → resV E rs h n' = some l' → l.length = l'.length
 | [], h, n, n', l, l', e, e' => by
  simp only [resV, Option.some.injEq] at e e'
  subst e; subst e'; rfl
 | (t, m) :: rs, h, n, n', l, l', e, e' => by
  simp only [resV] at e e'
  split at e
  ·rename_i x q hx hq
   obtain rfl := Option.some.inj e
   split at e'
   ·rename_i x' q' hx' hq'
    obtain rfl := Option.some.inj e'
    simp [nQ_ hq hq']
   ·cases e'
  ·cases e
theorem mk_ {l l' : List (V1 E)} {v : Value} (hl : l.length = l'.length) (h : RV P E z g (oneV E l) v) (hm : ∀ vs, All2 (R1 P E z g) l vs → All2 (R1 P E z' g') l' vs) : RV P E z' g' (oneV E l') v := by
 match l, l', hl with
 | [], [], _ => obtain ⟨vs, rfl, hr⟩ := h; exact ⟨vs, rfl, hm vs hr⟩
 | [x], [x'], _ =>
  have := hm [v] (.cons h .nil)
  cases this with
  | cons h _ => exact h
 | x :: y :: l, x' :: y' :: l', _ => obtain ⟨vs, rfl, hr⟩ := h; exact ⟨vs, rfl, hm vs hr⟩
def renS (c nx : Nat) (I : List Nat) (i : Nat) : Nat := match Nat.blt i c with
 | true => I.getD i 0
 | false => nx + (i - c)
def lentU (s : Nat → Nat) (l : Chs E) : Chs E := l.map fun p => (s p.1, p.2.map (Obj.ren s))
def goneU (I : List Nat) : Chs E := I.map fun i => (i, none)
def callU (E : TE) (C : Con E) (nx : Nat) (q : PA E C.ps × List Nat) (rh : HL E.S C.rs.ts) (bh : HL E.S (bm_ C.ps)) : Chs E := lentU (renS (ar_ E C.ps) nx q.2) (cH_ E C.rs rh (ar_ E C.ps) ++ aU_ E C.ps (bL_ E C.ps q.1 bh) 0 (ar_ E C.ps + ct_ E C.rs)) ++ goneU q.2
def lCall (E : TE) (tab : Tab E) (H : Nat → Option (Obj E)) (nx : Nat) (f : FuncId) (xs : List (V1 E)) {R : Type} (k : Option (SV E) → Chs E → Option R) : Option R :=
 match tab f with
 | none => none
 | some C => match C.I with
 | some I => I H nx xs R k
 | none => match aN_ E tab (upH H (frzP E H C.ps xs)) C.ps xs with
  | none => none
  | some q => match iz_ q.2 with
   | false => none
   | true => C.F R q.1 fun rh bh => match resV E C.rs rh nx with
    | none => none
    | some svr => match C.ali with
     | true => k (some (oneV E svr)) (callU E C nx q rh bh ++ frzP E H C.ps xs)
     | false => match hf_ E C.rs && et_ E C.ps with
      | true => k (some (oneV E svr)) (callU E C nx q rh bh)
      | false => none
theorem leave_uniq {C : Con E} {q : PA E C.ps × List Nat} {rh : HL E.S C.rs.ts} {bh : HL E.S (bm_ C.ps)} : UniqK (cH_ E C.rs rh (ar_ E C.ps) ++ aU_ E C.ps (bL_ E C.ps q.1 bh) 0 (ar_ E C.ps + ct_ E C.rs)) :=
 UniqK.append resO_uniq (c7_ (by omega)) fun i o o' h1 h2 => by
  have h3 := resO_in h1
  have h4 := gO_ h2
  omega
theorem oG_ {C : Con E} {q : PA E C.ps × List Nat} {rh : HL E.S C.rs.ts} {bh : HL E.S (bm_ C.ps)} {Hb : Nat → Option (Obj E)} {j : Nat} {o : Obj E}
  (h : upH Hb (callU E C nx q rh bh) j = some o) :
  (∃ i o1, (j = renS (ar_ E C.ps) nx q.2 i ∧ i < ar_ E C.ps + (ct_ E C.rs + db_ E C.ps)) ∧ upH (fun _ => none) (cH_ E C.rs rh (ar_ E C.ps) ++ aU_ E C.ps (bL_ E C.ps q.1 bh) 0 (ar_ E C.ps + ct_ E C.rs)) i = some o1 ∧ o = Obj.ren (renS (ar_ E C.ps) nx q.2) o1) ∨ (j ∉ q.2 ∧ Hb j = some o) := by
 unfold callU at h
 rw [← be_] at h
 rcases upH_or h with h | h
 ·have hnot : ∀ (I : List Nat), upH Hb (goneU I) j = some o → j ∉ I ∧ Hb j = some o := by
   intro I
   induction I with
   | nil => intro h; exact ⟨by simp, h⟩
   | cons i I ih =>
    intro h
    simp only [goneU, List.map_cons, upH] at h
    split at h
    ·cases h
    ·rename_i hb
     obtain ⟨h1, h2⟩ := ih h
     exact ⟨fun hm => by rcases List.mem_cons.1 hm with rfl | hm; exact cO_ hb rfl; exact h1 hm, h2⟩
  exact .inr (hnot _ h)
 ·left
  obtain ⟨p, hp, hpe⟩ := List.mem_map.1 h
  simp only [Prod.mk.injEq] at hpe
  obtain ⟨hj, ho⟩ := hpe
  obtain ⟨i, o2⟩ := p
  cases o2 with
  | none => cases ho
  | some o1 =>
   refine ⟨i, o1, ⟨hj.symm, ?_⟩, oF_ leave_uniq hp, (Option.some.inj ho).symm⟩
   rcases List.mem_append.1 hp with hp | hp
   ·have := resO_in hp
    omega
   ·have := gO_ hp
    omega
theorem nR_ {m : Mk} : ∀ {ts : List Ty} {h : HL E.S ts} {n i : Nat}, n ≤ i → i < n + aF_ m ts → ∃ o, (i, o) ∈ bf_ E m ts h n := by
 induction m with
 | nil => intro ts h n i h1 h2; cases ts <;> simp [aF_] at h2 <;> omega
 | cons a m ih =>
  intro ts h n i h1 h2
  cases ts with
  | nil => cases a <;> simp [aF_] at h2 <;> omega
  | cons t ts =>
   cases a with
   | none => simp only [aF_] at h2; simp only [bf_]; exact ih h1 h2
   | some e =>
    cases t with
    | sl t =>
     simp only [aF_] at h2
     simp only [bf_, List.mem_cons, Prod.mk.injEq]
     by_cases hin : i = n
     ·exact ⟨_, .inl ⟨hin, rfl⟩⟩
     ·obtain ⟨o, ho⟩ := ih (h := h.2) (n := n + 1) (i := i) (by omega) (by omega)
      exact ⟨o, .inr ho⟩
    | _ => simp [aF_] at h2 <;> omega
theorem argsO_cov : ∀ {ps : List Pm} {a : PA E ps} {n i : Nat}, n ≤ i → i < n + ar_ E ps → ∃ o, (i, o) ∈ bk_ E ps a n := by
 intro ps
 induction ps with
 | nil => intro a n i h1 h2; simp [ar_] at h2; omega
 | cons p ps ih =>
  intro a n i h1 h2
  cases p with
  | l t m =>
   simp only [ar_] at h2
   simp only [bk_, List.mem_append]
   by_cases hin : i < n + aF_ m (E.flat t)
   ·obtain ⟨o, ho⟩ := nR_ (h := E.fl t a.1) h1 hin
    exact ⟨o, .inl ho⟩
   ·obtain ⟨o, ho⟩ := ih (a := a.2) (n := n + aF_ m (E.flat t)) (i := i) (by omega) (by omega)
    exact ⟨o, .inr ho⟩
  | g t m =>
   simp only [ar_] at h2
   simp only [bk_, List.mem_append]
   by_cases hin : i < n + aF_ m (E.flat t)
   ·obtain ⟨o, ho⟩ := nR_ (h := E.fl t a.1) h1 hin
    exact ⟨o, .inl ho⟩
   ·obtain ⟨o, ho⟩ := ih (a := a.2) (n := n + aF_ m (E.flat t)) (i := i) (by omega) (by omega)
    exact ⟨o, .inr ho⟩
  | b T t =>
   simp only [ar_] at h2
   simp only [bk_, List.mem_cons, Prod.mk.injEq]
   by_cases hin : i = n
   ·exact ⟨_, .inl ⟨hin, rfl⟩⟩
   ·obtain ⟨o, ho⟩ := ih (a := a.2) (n := n + 1) (i := i) (by omega) (by omega)
    exact ⟨o, .inr ho⟩
  | bm T t m =>
   simp only [ar_] at h2
   simp only [bk_, List.mem_cons, List.mem_append, Prod.mk.injEq]
   by_cases hin : i = n
   ·exact ⟨_, .inl ⟨hin, rfl⟩⟩
   ·by_cases hi2 : i < n + 1 + aF_ m (E.flat t)
    ·obtain ⟨o, ho⟩ := nR_ (h := E.fl t a.1) (n := n + 1) (i := i) (by omega) hi2
     exact ⟨o, .inr (.inl ho)⟩
    ·obtain ⟨o, ho⟩ := ih (a := a.2) (n := n + 1 + aF_ m (E.flat t)) (i := i) (by omega) (by omega)
     exact ⟨o, .inr (.inr ho)⟩
  | mp T k v =>
   simp only [ar_] at h2
   simp only [bk_, List.mem_cons, Prod.mk.injEq]
   by_cases hin : i = n
   ·exact ⟨_, .inl ⟨hin, rfl⟩⟩
   ·obtain ⟨o, ho⟩ := ih (a := a.2) (n := n + 1) (i := i) (by omega) (by omega)
    exact ⟨o, .inr ho⟩
  | d t => exact ih (a := a.2) h1 h2
  | p t => exact ih (a := a.2) h1 h2
  | f1 x r => exact ih (a := a.2) h1 h2
  | f2 x y r => exact ih (a := a.2) h1 h2
def hg_ (tab : Tab E) (f : FuncId) : Bool := match tab f with
 | some C => lends C.ps
 | none => true
theorem takeA_own {tab : Tab E} : ∀ {ps : List Pm} {xs : List (V1 E)} {q : PA E ps × List Nat}, lends ps = false → aN_ E tab H ps xs = some q → q.2 = [] := by
 intro ps
 induction ps with
 | nil =>
  intro xs q _ h
  cases xs with
  | nil => simp only [aN_, Option.some.injEq] at h; subst h; rfl
  | cons x xs => simp [aN_] at h
 | cons p ps ih =>
  intro xs q hl h
  cases xs with
  | nil => cases p <;> simp [aN_] at h
  | cons x xs =>
   cases p with
   | l t m => cases hl
   | g t m => cases hl
   | b T t => cases hl
   | bm T t m => cases hl
   | mp T k v => cases hl
   | d t =>
    simp only [aN_] at h
    split at h
    ·rename_i d q' hd hq
     obtain rfl := Option.some.inj h
     exact ih hl hq
    ·cases h
   | p t =>
    cases x with
    | agg l => simp [aN_] at h
    | one c =>
     cases c with
     | elf t' x' off =>
      cases off with
      | succ off => simp [aN_] at h
      | zero =>
       simp only [aN_] at h
       split at h
       ·split at h
        ·rename_i q' hq
         obtain rfl := Option.some.inj h
         exact ih hl hq
        ·cases h
       ·cases h
     | ptr id off =>
      cases off with
      | succ off => simp [aN_] at h
      | zero =>
       simp only [aN_] at h
       split at h
       ·split at h
        ·split at h
         ·rename_i q' hq
          obtain rfl := Option.some.inj h
          exact ih hl hq
         ·cases h
        ·cases h
       ·cases h
     | _ => simp [aN_] at h
   | f1 x1 r1 =>
    cases x with
    | agg l => simp [aN_] at h
    | one c =>
     simp only [aN_] at h
     split at h
     ·rename_i f q' hf hq
      obtain rfl := Option.some.inj h
      exact ih hl hq
     ·cases h
   | f2 x1 y1 r1 =>
    cases x with
    | agg l => simp [aN_] at h
    | one c =>
     simp only [aN_] at h
     split at h
     ·rename_i f q' hf hq
      obtain rfl := Option.some.inj h
      exact ih hl hq
     ·cases h
theorem lCall_ok2 {tab : Tab E} (ht : tab.OK P E) {f : FuncId} (hni : ∀ C, tab f = some C → C.I = none) {xs : List (V1 E)} {vs : List Value} {R : Type} {k : Option (SV E) → Chs E → Option R} {r : R} (hnx : Fresh g nx) (hv : All2 (R1 P E z g) xs vs) (h : lCall E tab H nx f xs k = some r) :
  bT_ P f = true ∧ ∃ s u, k (some s) u = some r ∧ ∀ (Bs : List Nat) (F0 : Nat → Prop) (w0 w : World), HR P E Bs F0 w0 w z g H → Ret P f vs.toArray w fun v w' => ∃ z2 g2, z.Le z2 ∧ g.Le g2 ∧ Fresh g2 (nx + 1 + u.length) ∧ RV P E z2 g2 s v ∧ HR P E Bs F0 w0 w' z2 g2 (upH H u) ∧ (hg_ tab f = false → Ext w w') := by
 unfold lCall at h
 split at h
 ·cases h
 ·rename_i C hC
  obtain ⟨hok, hbody, _⟩ := ht f C hC
  refine ⟨hbody, ?_⟩
  rw [hni C hC] at h
  simp only at h
  split at h
  ·cases h
  ·rename_i q hq
   split at h
   ·cases h
   ·rename_i hn
    obtain ⟨rh, bh, hk, hcall⟩ := hok _ _ _ _ h
    obtain ⟨svr2, hres2, u, hu, hk⟩ : ∃ svr2, resV E C.rs rh nx = some svr2 ∧ ∃ u, ((C.ali = true ∧ u = callU E C nx q rh bh ++ frzP E H C.ps xs) ∨ (C.ali = false ∧ (hf_ E C.rs && et_ E C.ps) = true ∧ u = callU E C nx q rh bh)) ∧ k (some (oneV E svr2)) u = some r := by
     split at hk
     ·cases hk
     ·rename_i svr2 hres2
      split at hk
      ·rename_i hal; exact ⟨svr2, hres2, _, .inl ⟨hal, rfl⟩, hk⟩
      ·rename_i hal
       split at hk
       ·rename_i hfl; exact ⟨svr2, hres2, _, .inr ⟨hal, hfl, rfl⟩, hk⟩
       ·cases hk
    refine ⟨_, u, hk, fun Bs F0 w0 w hH => ?_⟩
    obtain ⟨z1, hz1, hH1⟩ := frzP_ok hH C.ps xs
    obtain ⟨⟨svs, e1, e2⟩, e3, e4⟩ := takeA_ok ht hH1 (I := q.2) (n := 0) hq (fun j id hj => by rw [Nat.zero_add]; exact hj) (hv.mono fun _ _ h => R1.le h hz1 (Ga.Le.refl g))
    have hent := hH1.entry hn e3
    have hfr : Fresh (gOf g q.2) (ar_ E C.ps) := fun i hi => by
     unfold gOf
     rw [List.getElem?_eq_none (by omega)]
    have hret := hcall w z1 _ _ svs vs e1 hent hfr e2
    refine hret.mono fun v w' ⟨z', g1, svr, hz', hali, hg1, hres, hrv, hx⟩ => ?_
    have hid : ∀ id ∈ q.2, ∃ l, g id = some l := fun id hid => by
     obtain ⟨i, hi⟩ := List.mem_iff_getElem?.1 hid
     have hil : i < ar_ E C.ps := by rw [← e4]; exact (List.getElem?_eq_some_iff.1 hi).1
     by_cases hgi : ∃ l, g id = some l
     ·exact hgi
     ·exfalso
      obtain ⟨o, ho⟩ := argsO_cov (a := q.1) (n := 0) (i := i) (Nat.zero_le _) (by omega)
      obtain ⟨id', o1, _, h5, h6, _⟩ := e3 i o ho
      rw [hi] at h5
      obtain rfl := Option.some.inj h5
      exact hgi (hH1.hold _ _ h6).loc
    have hlt : ∀ id ∈ q.2, id < nx := fun id hid' => by
     obtain ⟨l, hl⟩ := hid id hid'
     rcases Nat.lt_or_ge id nx with h5 | h5
     ·exact h5
     ·rw [hnx id h5] at hl; cases hl
    -- the numbers behind the call
    have hfm : ∀ i, i < ar_ E C.ps → q.2[i]? = some (renS (ar_ E C.ps) nx q.2 i) := fun i hi => by
     have hi2 : i < q.2.length := by omega
     have hb : Nat.blt i (ar_ E C.ps) = true := by simpa using hi
     unfold renS
     rw [hb, List.getElem?_eq_getElem hi2]
     simp [List.getD_eq_getElem?_getD, hi2]
    have hfn : ∀ i, ar_ E C.ps ≤ i → renS (ar_ E C.ps) nx q.2 i = nx + (i - ar_ E C.ps) := fun i hi => by
     have hb : Nat.blt i (ar_ E C.ps) = false := by
      cases hb : Nat.blt i (ar_ E C.ps) with
      | false => rfl
      | true => have : i < ar_ E C.ps := by simpa using hb
                omega
     unfold renS
     rw [hb]
    let g2 : Ga := fun j => if nx ≤ j ∧ j < nx + (ct_ E C.rs + db_ E C.ps) then g1 (ar_ E C.ps + (j - nx)) else g j
    have hg2 : g.Le g2 := fun j l hj => by
     have : j < nx := by
      rcases Nat.lt_or_ge j nx with h5 | h5
      ·exact h5
      ·rw [hnx j h5] at hj; cases hj
     show (if _ then _ else g j) = _
     rw [if_neg (by omega)]; exact hj
    have hfr2 : Fresh g2 (nx + (ct_ E C.rs + db_ E C.ps)) := fun j hj => by
     show (if _ then _ else g j) = _
     rw [if_neg (by omega)]; exact hnx j (by omega)
    have hmv : ∀ i l, i < ct_ E C.rs → g1 (ar_ E C.ps + i) = some l → g2 (nx + i) = some l := fun i l hlt hi => by
     show (if _ then _ else g _) = _
     rw [if_pos ⟨by omega, by omega⟩, show ar_ E C.ps + (nx + i - nx) = ar_ E C.ps + i by omega]
     exact hi
    let s : Nat → Nat → Prop := fun j i => j = renS (ar_ E C.ps) nx q.2 i ∧ i < ar_ E C.ps + (ct_ E C.rs + db_ E C.ps)
    have hs : ∀ j j' i, s j i → s j' i → j = j' := fun j j' i h1 h2 => h1.1.trans h2.1.symm
    have hsg : ∀ j i, s j i → g2 j = g1 i := fun j i h1 => by
     obtain ⟨rfl, hi⟩ := h1
     rcases Nat.lt_or_ge i (ar_ E C.ps) with h5 | h5
     ·have h6 := hfm i h5
      obtain ⟨l, hl⟩ := hid _ (List.mem_of_getElem? h6)
      rw [hg2 _ l hl]
      exact (hg1 i l (by unfold gOf; rw [h6]; exact hl)).symm
     ·rw [hfn i h5]
      show (if _ then _ else g _) = _
      rw [if_pos ⟨by omega, by omega⟩, show ar_ E C.ps + (nx + (i - ar_ E C.ps) - nx) = i by omega]
    have hKm : ∀ i l, (ar_ E C.ps + ct_ E C.rs ≤ i ∧ i < ar_ E C.ps + ct_ E C.rs + db_ E C.ps) → g1 i = some l → g2 (renS (ar_ E C.ps) nx q.2 i) = some l := fun i l hi hl => (hsg _ i ⟨rfl, by omega⟩).trans hl
    have hpl : ∀ i o, upH (fun _ => none) (cH_ E C.rs rh (ar_ E C.ps) ++ aU_ E C.ps (bL_ E C.ps q.1 bh) 0 (ar_ E C.ps + ct_ E C.rs)) i = some o → i5_ E (fun i => ar_ E C.ps + ct_ E C.rs ≤ i ∧ i < ar_ E C.ps + ct_ E C.rs + db_ E C.ps) o := fun i o ho => by
     rcases List.mem_append.1 (g4_ ho) with h1 | h1
     ·obtain ⟨p, hp, hp2, _⟩ := eL_ _ _ h1
      obtain rfl := Option.some.inj hp
      exact hp2 _
     ·obtain ⟨p, hp, hp2, _⟩ := ca_ _ _ h1
      obtain rfl := Option.some.inj hp
      exact hp2
    have hlen : ct_ E C.rs + db_ E C.ps ≤ (callU E C nx q rh bh).length := by
     unfold callU lentU
     rw [List.length_append, List.length_map, List.length_append, resO_len]
     have := dB_ (ps := C.ps) (a := bL_ E C.ps q.1 bh) (n := 0) (k := ar_ E C.ps + ct_ E C.rs)
     omega
    have hext : hg_ tab f = false → Ext w w' := fun hl => by
     have hq0 : q.2 = [] := takeA_own (by simpa only [hg_, hC] using hl) hq
     have hchg := hx.chg
     rw [hq0] at hchg
     exact Ext.of_below (Chg.below hchg)
    ·rcases hu with ⟨hal, rfl⟩ | ⟨hal, hfl, rfl⟩
     ·refine ⟨z', g2, hz1.trans hz', hg2, fun j hj => hfr2 j (by simp only [List.length_append] at hj; omega), ?_, ?_, hext⟩
      ·exact mk_ (nQ_ hres hres2) hrv fun vs hvs => ke_ hres hres2 hvs hmv (.inl rfl)
      ·rw [← be_]
       refine hH1.back2 (s := s) hx (fun k hk => ?_) hg2 (fun j o hj => (oG_ hj).imp (fun ⟨i, o1, hji, h2, ho⟩ => ⟨i, o1, hji, h2, by rw [ho]; exact (hx.hold i o1 h2).move2 (hpl i o1 h2) hKm (.inl rfl) (hsg j i hji)⟩) id) hs hz' hx.fz fun k hk => ?_
       ·obtain ⟨i, id, o, h1, h2, h3⟩ := hP_ hk
        exact ⟨id, o, List.mem_of_getElem? h1, h2, h3⟩
       ·rcases hx.fz0 k hk with h1 | h1 | h1
        ·exact .inl h1
        ·exact .inr ⟨.inl h1, hk⟩
        ·exact .inr ⟨.inr h1, hk⟩
     ··simp only [Bool.and_eq_true] at hfl
       obtain rfl := hali hal
       have hzin : z.In w' := fun k hk => by
        have h1 := hx.fz k (hz1 k hk).1
        exact ⟨h1.1, h1.2.trans (hz1 k hk).2⟩
       have hflat : ∀ i o1, upH (fun _ => none) (cH_ E C.rs rh (ar_ E C.ps) ++ aU_ E C.ps (bL_ E C.ps q.1 bh) 0 (ar_ E C.ps + ct_ E C.rs)) i = some o1 → hQ_ E o1 := fun i o1 h2 => by
        rcases List.mem_append.1 (g4_ h2) with h3 | h3
        ·obtain ⟨p, hp, hp2⟩ := mi_ hfl.1 _ _ h3
         obtain rfl := Option.some.inj hp
         exact hp2
        ·obtain ⟨p, hp, hp2⟩ := cI_ hfl.2 _ _ h3
         obtain rfl := Option.some.inj hp
         exact hp2
       refine ⟨z, g2, Fz.Le.refl z, hg2, fun j hj => hfr2 j (by omega), ?_, ?_, hext⟩
       ·exact mk_ (nQ_ hres hres2) hrv fun vs hvs => ke_ hres hres2 hvs hmv (.inr hfl.1)
       ·refine hH.back2 (s := s) hx (fun k hk => ?_) hg2 (fun j o hj => (oG_ hj).imp (fun ⟨i, o1, hji, h2, ho⟩ => ⟨i, o1, hji, h2, by rw [ho]; exact (hx.hold i o1 h2).move2 (hpl i o1 h2) hKm (.inr (hflat i o1 h2)) (hsg j i hji)⟩) id) hs (Fz.Le.refl z) hzin fun k hk => .inl hk
        obtain ⟨i, id, o, h1, h2, h3⟩ := hP_ hk
        refine ⟨id, o, List.mem_of_getElem? h1, ?_, h3⟩
        rcases upH_or h2 with h4 | h4
        ·exact h4
        ·rcases frzP_only H C.ps xs _ _ h4 with ⟨t, ys, h5⟩ | ⟨t, y, h5⟩
         ·obtain rfl := Option.some.inj h5; exact h3.elim
         ·obtain rfl := Option.some.inj h5; exact h3.elim
theorem lCall_ok {tab : Tab E} (ht : tab.OK P E) {f : FuncId} {xs : List (V1 E)} {vs : List Value} {R : Type} {k : Option (SV E) → Chs E → Option R} {r : R} (hnx : Fresh g nx) (hH : HR P E Bs F0 w0 w z g H) (hv : All2 (R1 P E z g) xs vs) (h : lCall E tab H nx f xs k = some r) :
  bT_ P f = true ∧ Ret P f vs.toArray w fun v w' => ∃ s u z2 g2, k (some s) u = some r ∧ z.Le z2 ∧ g.Le g2 ∧ Fresh g2 (nxU nx u) ∧ RV P E z2 g2 s v ∧ HR P E Bs F0 w0 w' z2 g2 (upH H u) ∧ (hg_ tab f = false → Ext w w') := by
 cases hC : tab f with
 | none =>
  unfold lCall at h
  rw [hC] at h
  cases h
 | some C =>
  cases hI : C.I with
  | none =>
   obtain ⟨hb, s, u, hk, hret⟩ := lCall_ok2 ht (fun C' e => by rw [hC] at e; obtain rfl := Option.some.inj e; exact hI) hnx hv h
   exact ⟨hb, (hret Bs F0 w0 w hH).mono fun v w' ⟨z2, g2, h1, h2, h3, h4, h5, h6⟩ => ⟨s, u, z2, g2, hk, h1, h2, h3.nxU, h4, h5, h6⟩⟩
  | some I =>
   obtain ⟨_, hb, hIn⟩ := ht f C hC
   obtain ⟨hl, hok⟩ := hIn I hI
   unfold lCall at h
   rw [hC] at h
   simp only [hI] at h
   refine ⟨hb, (hok hnx hH hv h).mono fun v w' ⟨s, u, z2, g2, h1, h2, h3, h4, h5, h6⟩ => ⟨s, u, z2, g2, h1, h2, h3, h4, h5, h6, fun hf => ?_⟩⟩
   unfold hg_ at hf
   rw [hC] at hf
   simp only at hf
   rw [hl] at hf
   cases hf
end
end Rt
end Go
namespace Go
namespace Rt
open Go.RowKit
section
variable {P : Program} {E : TE} {z z' : Fz} {g g' : Ga} {nx : Nat} {w w' w0 : World} {H H' : Nat → Option (Obj E)} {L : Nat → Option (SV E)} {ρ : Operand → Value} {o : Oper} {Bs : List Nat} {F0 : Nat → Prop} {R : Type} {r : R}
def i6_ (E : TE) (L : Nat → Option (SV E)) : List Operand → Option (List (V1 E))
 | [] => some []
 | x :: l => match opS E L x, i6_ E L l with
  | some (.v v), some vs => some (v :: vs)
  | _, _ => none
theorem gP_ (hρ : OpR P E z g L ρ) : ∀ {l : List Operand} {xs : List (V1 E)}, i6_ E L l = some xs → All2 (R1 P E z g) xs (l.map ρ)
 | [], xs, h => by simp only [i6_, Option.some.injEq] at h; subst h; exact .nil
 | x :: l, xs, h => by
  simp only [i6_] at h
  split at h
  ·rename_i v vs hv hvs
   obtain rfl := Option.some.inj h
   exact .cons (hρ x _ hv) (gP_ hρ hvs)
  ·cases h
theorem oH_ {f : FuncId} {args : Array Operand} {ats : Array TypeId} (ho : o.op = .call { callee := .value (.func f), args := args, argTypes := ats }) (hf : ρ (.func f) = .func (.func f) #[] #[]) (hb : bT_ P f = true) (w : World) :
  (execOp ρ o).run P w = .ok (.enter f (args.toList.map ρ).toArray) w := by
 unfold execOp
 rw [ho]
 simp only [resolve, hf, Deferred.ofValue, Sem.run_bind, Sem.run_pure, Result.andThen_ok, invoke]
 have e : (#[] ++ args.map ρ ++ #[] : Array Value) = (args.toList.map ρ).toArray := by
  rw [← List.map_toArray]
  simp
 rw [e]
 exact l8_ hb
theorem kB_ {x : Operand} {f : FuncId} {caps : Array Value} {args : Array Operand} {ats : Array TypeId} (ho : o.op = .call { callee := .value x, args := args, argTypes := ats }) (hf : ρ x = .func (.func f) #[] caps) (hb : bT_ P f = true) (w : World) :
  (execOp ρ o).run P w = .ok (.enter f ((args.toList.map ρ).toArray ++ caps)) w := by
 unfold execOp
 rw [ho]
 simp only [resolve, hf, Deferred.ofValue, Sem.run_bind, Sem.run_pure, Result.andThen_ok, invoke]
 have e : (#[] ++ args.map ρ ++ caps : Array Value) = (args.toList.map ρ).toArray ++ caps := by
  rw [← List.map_toArray]
  simp
 rw [e]
 exact l8_ hb
theorem lk_ {t : Ty} {x : V1 E} {d : Den E.S t} {v : Value} (hH : HR P E Bs F0 w0 w z g H) (h : ii_ E H t x = some d) (hr : R1 P E z g x v) : RT E z t d v := by
 unfold ii_ at h
 split at h
 ·rename_i hd hf hh
  obtain rfl := Option.some.inj h
  cases x with
  | one c =>
   have := dI_ hH hh (.cons hr .nil : All2 (RC P E z g) [c] [v])
   cases t with
   | st n => cases hf
   | int k => exact this
   | bool => exact this
   | str => exact this
   | sl e => exact this
  | agg l =>
   obtain ⟨vs, rfl, hr⟩ := hr
   have := dI_ hH hh hr
   cases t with
   | st n =>
    have h2 : RD E z (E.flat (.st n)) (E.fl (.st n) (E.ufl (.st n) hd)) vs := by rw [E.fl_ufl]; exact this
    exact ⟨vs, rfl, h2⟩
   | _ => cases hf
 ·cases h
def lCallV (E : TE) (L : Nat → Option (SV E)) (H : Nat → Option (Obj E)) (x : Operand) (args : List Operand) {R : Type} (k : Option (SV E) → Chs E → Option R) : Option R :=
 match opS E L x, i6_ E L args with
 | some (.v (.one (.fn1 a r f))), some [u] => match ii_ E H a u with
  | some d => Option.bind (f d) fun y => k (some (.v (.one (.dt r y)))) []
  | none => none
 | some (.v (.one (.fn2 a b r f))), some [u, v] => match ii_ E H a u, ii_ E H b v with
  | some d, some e => Option.bind (f d e) fun y => k (some (.v (.one (.dt r y)))) []
  | _, _ => none
 | _, _ => none
theorem lCallV_ok {x : Operand} {args : List Operand} {k : Option (SV E) → Chs E → Option R} (hρ : OpR P E z g L ρ) (hH : HR P E Bs F0 w0 w z g H) (h : lCallV E L H x args k = some r) :
  ∃ f caps s, ρ x = .func (.func f) #[] caps ∧ bT_ P f = true ∧ k (some s) [] = some r ∧ Ret P f ((args.map ρ).toArray ++ caps) w fun v w' => RV P E z g s v ∧ Ext w w' := by
 unfold lCallV at h
 split at h
 ·rename_i a r' f u hx hu
  split at h
  ·rename_i d hd
   obtain ⟨y, hy, h⟩ := bind_some h
   obtain ⟨fid, caps, e, ⟨hb, hfl⟩, hc⟩ := hρ x _ hx
   have hargs := gP_ hρ hu
   generalize args.map ρ = vs at hargs
   cases hargs with
   | cons h1 h2 =>
    cases h2
    exact ⟨fid, caps, _, e, hb, h, hc w z (d, ()) y _ (Fz.Le.refl z) hH.fz ⟨_, _, rfl, lk_ hH hd h1, rfl⟩ hy⟩
  ·cases h
 ·rename_i a b r' f u v hx hu
  split at h
  ·rename_i d e' hd he
   obtain ⟨y, hy, h⟩ := bind_some h
   obtain ⟨fid, caps, e, ⟨hb, hfl⟩, hc⟩ := hρ x _ hx
   have hargs := gP_ hρ hu
   generalize args.map ρ = vs at hargs
   cases hargs with
   | cons h1 h2 =>
    cases h2 with
    | cons h2 h3 =>
     cases h3
     exact ⟨fid, caps, _, e, hb, h, hc w z (d, e', ()) y _ (Fz.Le.refl z) hH.fz ⟨_, _, rfl, lk_ hH hd h1, _, _, rfl, lk_ hH he h2, rfl⟩ hy⟩
  ·cases h
 ·cases h
def capsV (E : TE) : List Nat → List (V1 E)
 | [] => []
 | i :: l => .one (.ptr i 0) :: capsV E l
theorem nS_ : ∀ {ids : List Nat} {us : List Value}, All2 (fun id u => ∃ l, g id = some l ∧ u = Value.pointer (some ⟨l.b, 0, none⟩)) ids us → All2 (R1 P E z g) (capsV E ids) us
 | [], _, h => by cases h; exact .nil
 | i :: ids, _, h => by
  cases h with
  | cons h1 h2 => exact .cons h1 (nS_ h2)
noncomputable def evOp (P : Program) (E : TE) (eqs : List (Nat × Nat)) (tab : Tab E) (L : Nat → Option (SV E)) (H : Nat → Option (Obj E)) (nx : Nat) (o : Oper) {R : Type} (k : Option (SV E) → Chs E → Option R) : Option R :=
 match o.op with
 | .box T x => lBox E L nx T x k
 | .alloc T => lAlloc P E nx T k
 | .store T x y => lStore P E L H T x y k
 | .buildSlice T n ps => lSlice P E L H nx T n ps k
 | .makeSlice T x y => lMake P E L nx T x y k
 | .call { callee := .builtin .append, args := ⟨[x, y]⟩, argTypes := ⟨[T, T']⟩ } => match Nat.beq T T' with
  | true => lApp P E L H nx T x y k
  | false => none
 | .call { callee := .builtin .copy, args := ⟨[x, y]⟩, argTypes := ⟨[T, _]⟩ } => lCopy P E L H T x y k
 | .call { callee := .value (.func f), args := args, argTypes := _ } => match i6_ E L args.toList with
  | some xs => lCall E tab H nx f xs k
  | none => none
 | .call { callee := .value (.tmp t), args := args, argTypes := _ } => match L t with
  | some (.v (.one (.clo f ids))) => match i6_ E L args.toList with
   | some xs => lCall E tab H nx f (xs ++ capsV E ids) k
   | none => none
  | _ => lCallV E L H (.tmp t) args.toList k
 | _ => qOp P E eqs L H nx o fun s up => k (some s) (match up with | none => [] | some (i, p) => [(i, some p)])
theorem HR.up {i : Nat} {o1 o2 : Obj E} (h : HR P E Bs F0 w0 w z g H) (hg : g.Le g') (hi : H i = some o1) (ho : ∀ z w, ObjR P E z g w i o1 → ObjR P E z g' w i o2) (hf : ∀ k, fpO g' i o2 k ↔ fpO g i o1 k) : HR P E Bs F0 w0 w z g' (upH H [(i, some o2)]) := by
 refine h.turn hg (i := i) (i' := i) (C := fun k => fpO g i o1 k) (fun k hk => ⟨o1, hi, hk⟩) (Grow.refl w) (fun k _ _ => rfl) (ho z w (h.hold i o1 hi)) (fun k hk => .inl ((hf k).1 hk)) fun j p hj => ?_
 rcases cy_ hj with ⟨rfl, rfl⟩ | ⟨h1, h2⟩
 ·exact .inl ⟨rfl, rfl⟩
 ·exact .inr ⟨h1, .inl h1, h2⟩
def hh_ (tab : Tab E) (L : Nat → Option (SV E)) (o : Oper) : Bool := match o.op with
 | .store .. => false
 | .mapUpdate .. => false
 | .mapEntry .. => false
 | .entryStore .. => false
 | .call { callee := .builtin .append, args := _, argTypes := _ } => false
 | .call { callee := .builtin .copy, args := _, argTypes := _ } => false
 | .call { callee := .value (.func f), args := _, argTypes := _ } => !(hg_ tab f)
 | .call { callee := .value (.tmp t), args := _, argTypes := _ } => match L t with
  | some (.v (.one (.clo f _))) => !(hg_ tab f)
  | _ => true
 | _ => true
theorem jD_ {eqs : List (Nat × Nat)} {tab : Tab E} {N : Nat} {a : Act} {K : Act → World → Prop} {Q : Exit → Act → World → Prop} {k : Option (SV E) → Chs E → Option R} (heq : ∀ p ∈ eqs, bl_ P E p.1 p.2) (ht : tab.OK P E) (hnx : Fresh g nx) (hE : ER P E z g N a L) (hH : HR P E Bs F0 w0 w z g H)
  (h : evOp P E eqs tab L H nx o k = some r)
  (hK : ∀ s u v w' z2 g2, k s u = some r → z.Le z2 → g.Le g2 → ER P E z2 g2 N a L → HR P E Bs F0 w0 w' z2 g2 (upH H u) → Fresh g2 (nxU nx u) → (∀ sv, s = some sv → RV P E z2 g2 sv v) → (hh_ tab L o = true → Ext w w') → K (a.put o.dst v) w') : o.wp P a w K Q := by
 have hρ := hE.op
 have hρc : ∀ v, a.eval (.const v) = v := fun v => rfl
 have loud : ∀ {ex : Bool}, (hh_ tab L o = true → ex = true) → i3_ P E Bs F0 w0 w z g nx H a.eval o ex k r → o.wp P a w K Q := by
  rintro ex hex ⟨s, u, z2, g2, w', n, hk, ht⟩
  unfold Oper.wp
  rw [ht.run]
  have hfr : Fresh g2 (nxU nx u) := Fresh.nxU fun i hi => ht.fresh i (by omega)
  cases s with
  | some sv =>
   obtain ⟨v, rfl, hv⟩ := ht.val
   exact hK _ u v w' z2 g2 hk ht.le ht.leg (hE.le ht.le ht.leg) ht.hr hfr (fun sv' e => by obtain rfl := Option.some.inj e; exact hv) fun hm => ht.ext (hex hm)
  | none =>
   have hn : n = .skip := ht.val
   subst hn
   exact hK none u undef w' z2 g2 hk ht.le ht.leg (hE.le ht.le ht.leg) ht.hr hfr (fun sv' e => by cases e) fun hm => ht.ext (hex hm)
 unfold evOp at h
 split at h
 ·rename_i T x ho; exact loud (fun _ => rfl) (lBox_ok ho hnx hρ hH h)
 ·rename_i T ho; exact loud (fun _ => rfl) (lAlloc_ok ho hnx hH h)
 ·rename_i T x y ho; exact loud (fun hm => by simp [hh_, ho] at hm) (lStore_ok ho hnx hρ hH h)
 ·rename_i T n ps ho; exact loud (fun _ => rfl) (lSlice_ok ho hnx hρ hH h)
 ·rename_i T x y ho; exact loud (fun _ => rfl) (lMake_ok ho hρc hnx hρ hH h)
 ·rename_i x y T T' ho
  split at h
  ·rename_i hb
   obtain rfl := Nat.eq_of_beq_eq_true hb
   exact loud (fun hm => by simp [hh_, ho] at hm) (lApp_ok ho hnx hρ hH h)
  ·cases h
 ·rename_i x y T T2 ho; exact loud (fun hm => by simp [hh_, ho] at hm) (lCopy_ok ho hnx hρ hH h)
 ·rename_i f args ats ho
  split at h
  ·rename_i xs hxs
   obtain ⟨hb, hret⟩ := lCall_ok ht hnx hH (gP_ hρ hxs) h
   unfold Oper.wp
   rw [oH_ ho rfl hb]
   simp only [Oper.upon]
   refine Calls.mono hret fun e w' ⟨v, he, s, u, z2, g2, hk, h1, h2, h3, h4, h5, h6⟩ => ?_
   subst he
   exact hK _ u v w' z2 g2 hk h1 h2 (hE.le h1 h2) h5 h3 (fun sv' e => by obtain rfl := Option.some.inj e; exact h4) fun hm => h6 (by simpa [hh_, ho] using hm)
  ·cases h
 ·rename_i t args ats ho
  split at h
  ·rename_i f ids hL
   split at h
   ·rename_i xs hxs
    obtain ⟨us, hf, hus⟩ := hρ (.tmp t) _ hL
    obtain ⟨hb, hret⟩ := lCall_ok ht hnx hH ((gP_ hρ hxs).append (nS_ hus)) h
    unfold Oper.wp
    rw [kB_ ho hf hb]
    simp only [Oper.upon]
    have e : (args.toList.map a.eval).toArray ++ us.toArray = (args.toList.map a.eval ++ us).toArray := by simp
    rw [e]
    refine Calls.mono hret fun e w' ⟨v, he, s, u, z2, g2, hk, h1, h2, h3, h4, h5, h6⟩ => ?_
    subst he
    exact hK _ u v w' z2 g2 hk h1 h2 (hE.le h1 h2) h5 h3 (fun sv' e => by obtain rfl := Option.some.inj e; exact h4) fun hm => h6 (by simpa [hh_, ho, hL] using hm)
   ·cases h
  ·obtain ⟨f, caps, s, hf, hb, hk, hret⟩ := lCallV_ok hρ hH h
   unfold Oper.wp
   rw [kB_ ho hf hb]
   simp only [Oper.upon]
   refine Calls.mono hret fun e w' ⟨v, he, hv, hx⟩ => ?_
   subst he
   exact hK _ [] v w' z g hk (Fz.Le.refl z) (Ga.Le.refl g) hE (hH.ext hx) (Fresh.nxU fun i hi => hnx i (by omega)) (fun sv' e => by obtain rfl := Option.some.inj e; exact hv) fun _ => hx
 ·obtain ⟨s, v, up, g2, hk, hg, hgn, hv, hrun, hup⟩ := qOp_ok (W := w) (I := fun w' => w' = w) heq hnx.self hρ hH (fun w' e => by subst e; exact Stands.refl hH) h
  unfold Oper.wp
  rw [hrun w rfl]
  have hfr : ∀ m, Fresh g2 (nx + 1 + m) := fun m i hi => by rw [hgn i (by omega)]; exact hnx i (by omega)
  cases up with
  | none =>
   obtain rfl := hup
   exact hK _ [] v w z g2 hk (Fz.Le.refl z) (Ga.Le.refl g2) hE hH (hfr _).nxU (fun sv' e => by obtain rfl := Option.some.inj e; exact hv) fun _ => Ext.refl w
  | some p =>
   obtain ⟨i, o2⟩ := p
   obtain ⟨o1, h1, h2, h3⟩ := hup
   exact hK _ [(i, some o2)] v w z g2 hk (Fz.Le.refl z) hg (hE.le (Fz.Le.refl z) hg) (hH.up hg h1 h2 h3) (hfr _).nxU (fun sv' e => by obtain rfl := Option.some.inj e; exact hv) fun _ => Ext.refl w
theorem evOp_ok {eqs : List (Nat × Nat)} {tab : Tab E} {N : Nat} {a : Act} {K : Act → World → Prop} {Q : Exit → Act → World → Prop} {k : Option (SV E) → Chs E → Option R} (heq : ∀ p ∈ eqs, bl_ P E p.1 p.2) (ht : tab.OK P E) (hnx : Fresh g nx) (hE : ER P E z g N a L) (hH : HR P E Bs F0 w0 w z g H)
  (h : evOp P E eqs tab L H nx o k = some r)
  (hK : ∀ s u v w' z2 g2, k s u = some r → z.Le z2 → g.Le g2 → ER P E z2 g2 N a L → HR P E Bs F0 w0 w' z2 g2 (upH H u) → Fresh g2 (nxU nx u) → (∀ sv, s = some sv → RV P E z2 g2 sv v) → K (a.put o.dst v) w') : o.wp P a w K Q :=
 jD_ heq ht hnx hE hH h fun s u v w' z2 g2 h1 h2 h3 h4 h5 h6 h7 _ => hK s u v w' z2 g2 h1 h2 h3 h4 h5 h6 h7
end
end Rt
end Go
namespace Go
namespace Rt
open Go.RowKit
section
variable {P : Program} {E : TE} {z z' : Fz} {g g' : Ga} {nx : Nat} {w w' W w0 : World} {I : World → Prop} {H H' : Nat → Option (Obj E)} {L : Nat → Option (SV E)} {ρ : Operand → Value} {o : Oper} {Bs : List Nat} {F0 : Nat → Prop} {R : Type} {r : R}
def SC.enc : SC E → Option Value
 | .dt (.int k) n => some (.int k n)
 | .dt .bool b => some (.bool b)
 | .dt .str s => some (S s)
 | _ => none
def encCs : List (SC E) → Option (List Value)
 | [] => some []
 | c :: l => match c.enc, encCs l with
  | some v, some vs => some (v :: vs)
  | _, _ => none
def V1.enc : V1 E → Option Value
 | .one c => c.enc
 | .agg l => match encCs l with
  | some vs => some (.agg vs.toArray)
  | none => none
def encVs : List (V1 E) → Option (List Value)
 | [] => some []
 | c :: l => match c.enc, encVs l with
  | some v, some vs => some (v :: vs)
  | _, _ => none
def SV.enc : SV E → Option Value
 | .v x => x.enc
 | .tup l => match encVs l with
  | some vs => some (.tuple vs.toArray)
  | none => none
theorem SC.enc_ok {c : SC E} {u v : Value} (h : c.enc = some u) : RC P E z g c v ↔ v = u := by
 unfold SC.enc at h
 split at h
 ·obtain rfl := Option.some.inj h
  exact ⟨fun hr => by obtain ⟨vs, e, _⟩ := RD.int_inv (hr : RD E z _ _ [v]); simp at e; exact e.1, fun e => by subst e; exact RD.int .nil⟩
 ·obtain rfl := Option.some.inj h
  exact ⟨fun hr => by obtain ⟨vs, e, _⟩ := RD.bool_inv (hr : RD E z _ _ [v]); simp at e; exact e.1, fun e => by subst e; exact RD.bool .nil⟩
 ·obtain rfl := Option.some.inj h
  exact ⟨fun hr => by obtain ⟨vs, e, _⟩ := RD.str_inv (hr : RD E z _ _ [v]); simp at e; exact e.1, fun e => by subst e; exact RD.str .nil⟩
 ·cases h
theorem ll_ : ∀ {l : List (SC E)} {us vs : List Value}, encCs l = some us → (All2 (RC P E z g) l vs ↔ vs = us)
 | [], us, vs, h => by
  obtain rfl := Option.some.inj h
  exact ⟨fun h => by cases h; rfl, fun e => by subst e; exact .nil⟩
 | c :: l, us, vs, h => by
  simp only [encCs] at h
  split at h
  ·rename_i v vs' hv hvs
   obtain rfl := Option.some.inj h
   refine ⟨fun h => ?_, fun e => ?_⟩
   ·cases h with
    | cons h1 h2 =>
     obtain rfl := (SC.enc_ok hv).1 h1
     obtain rfl := (ll_ hvs).1 h2
     rfl
   ·subst e
    exact .cons ((SC.enc_ok hv).2 rfl) ((ll_ hvs).2 rfl)
  ·cases h
theorem V1.enc_ok {x : V1 E} {u v : Value} (h : x.enc = some u) : R1 P E z g x v ↔ v = u := by
 cases x with
 | one c => exact SC.enc_ok h
 | agg l =>
  simp only [V1.enc] at h
  split at h
  ·rename_i vs hvs
   obtain rfl := Option.some.inj h
   exact ⟨fun ⟨us, e, hu⟩ => by obtain rfl := (ll_ hvs).1 hu; exact e, fun e => ⟨vs, e, (ll_ hvs).2 rfl⟩⟩
  ·cases h
theorem jE_ : ∀ {l : List (V1 E)} {us vs : List Value}, encVs l = some us → (All2 (R1 P E z g) l vs ↔ vs = us)
 | [], us, vs, h => by
  obtain rfl := Option.some.inj h
  exact ⟨fun h => by cases h; rfl, fun e => by subst e; exact .nil⟩
 | c :: l, us, vs, h => by
  simp only [encVs] at h
  split at h
  ·rename_i v vs' hv hvs
   obtain rfl := Option.some.inj h
   refine ⟨fun h => ?_, fun e => ?_⟩
   ·cases h with
    | cons h1 h2 =>
     obtain rfl := (V1.enc_ok hv).1 h1
     obtain rfl := (jE_ hvs).1 h2
     rfl
   ·subst e
    exact .cons ((V1.enc_ok hv).2 rfl) ((jE_ hvs).2 rfl)
  ·cases h
theorem SV.enc_ok {x : SV E} {u v : Value} (h : x.enc = some u) : RV P E z g x v ↔ v = u := by
 cases x with
 | v x => exact V1.enc_ok h
 | tup l =>
  simp only [SV.enc] at h
  split at h
  ·rename_i vs hvs
   obtain rfl := Option.some.inj h
   exact ⟨fun ⟨us, e, hu⟩ => by obtain rfl := (jE_ hvs).1 hu; exact e, fun e => ⟨vs, e, (jE_ hvs).2 rfl⟩⟩
  ·cases h
def qCall (E : TE) (tab : Tab E) (H : Nat → Option (Obj E)) (nx : Nat) (f : FuncId) (xs : List (V1 E)) {R : Type} (k : Option (SV E) → Chs E → Option R) : Option R :=
 match hg_ tab f with
 | true => none
 | false => lCall E tab H nx f xs fun s u => match s, u with
  | some sv, [] => match sv.enc with
   | some _ => k (some sv) []
   | none => none
  | _, _ => none
noncomputable def hi_ (P : Program) (E : TE) (eqs : List (Nat × Nat)) (tab : Tab E) (L : Nat → Option (SV E)) (H : Nat → Option (Obj E)) (nx : Nat) (o : Oper) {R : Type} (k : Option (SV E) → Chs E → Option R) : Option R :=
 match o.op with
 | .call { callee := .value (.func f), args := args, argTypes := _ } => match i6_ E L args.toList with
  | some xs => qCall E tab H nx f xs k
  | none => none
 | .call { callee := .value (.tmp t), args := args, argTypes := _ } => match L t with
  | some (.v (.one (.clo f ids))) => match i6_ E L args.toList with
   | some xs => qCall E tab H nx f (xs ++ capsV E ids) k
   | none => none
  | _ => none
 | _ => qOp P E eqs L H nx o fun s up => k (some s) (match up with | none => [] | some (i, p) => [(i, some p)])
def Keeps (P : Program) (E : TE) (z : Fz) (g : Ga) (H : Nat → Option (Obj E)) (W w : World) : Prop := Stands z g H W w ∧ ∃ Bs F0 w0, HR P E Bs F0 w0 w z g H
theorem Keeps.of_ext (hH : HR P E Bs F0 w0 W z g H) (h : Ext W w) : Keeps P E z g H W w := ⟨Stands.of_ext hH h, _, _, _, hH.ext h⟩
def Quiet (P : Program) (E : TE) (Bs : List Nat) (F0 : Nat → Prop) (w0 W : World) (I : World → Prop) (z : Fz) (g : Ga) (nx : Nat) (H : Nat → Option (Obj E)) (ρ : Operand → Value) (o : Oper) {R : Type} (k : Option (SV E) → Chs E → Option R) (r : R) : Prop :=
 ∃ s u v g2, k (some s) u = some r ∧ g.Le g2 ∧ HR P E Bs F0 w0 W z g2 (upH H u) ∧ Fresh g2 (nx + 1 + u.length) ∧ RV P E z g2 s v ∧ ∀ w', I w' → Oper.quietUponX P w' v ((execOp ρ o).run P w')
theorem qCall_ok {tab : Tab E} (ht : tab.OK P E) (hnx : Fresh g nx) (hH : HR P E Bs F0 w0 W z g H) (hI : ∀ w', I w' → Keeps P E z g H W w') {f : FuncId} {xs : List (V1 E)} {vs : List Value} {k : Option (SV E) → Chs E → Option R} (hv : All2 (R1 P E z g) xs vs) (h : qCall E tab H nx f xs k = some r)
  (hrun : bT_ P f = true → ∀ w', (execOp ρ o).run P w' = .ok (.enter f vs.toArray) w') : Quiet P E Bs F0 w0 W I z g nx H ρ o k r := by
 unfold qCall at h
 split at h
 ·cases h
 ·rename_i hl
  obtain ⟨hb, s, u, hk, hret⟩ := lCall_ok2 ht (fun C e => by
   cases hI2 : C.I with
   | none => rfl
   | some I2 =>
    have h5 := ((ht f C e).2.2 I2 hI2).1
    unfold hg_ at hl
    rw [e] at hl
    simp only at hl
    rw [h5] at hl
    cases hl) hnx hv h
  split at hk
  ·rename_i sv hsv
   obtain rfl := Option.some.inj hsv
   split at hk
   ·rename_i v hv'
    refine ⟨_, [], v, g, hk, Ga.Le.refl g, hH, (fun i hi => hnx i (by omega)), (SV.enc_ok hv').2 rfl, fun w' hw' => ?_⟩
    rw [hrun hb w']
    obtain ⟨_, Bs', F0', w0', hH'⟩ := hI w' hw'
    refine ⟨rfl, Calls.mono (hret Bs' F0' w0' w' hH') fun e w'' ⟨v', he, z2, g2, _, _, _, h4, _, h6⟩ => ?_⟩
    obtain rfl := (SV.enc_ok hv').1 h4
    exact ⟨he, h6 hl⟩
   ·cases hk
  ·cases hk
theorem jF_ {eqs : List (Nat × Nat)} {tab : Tab E} {N : Nat} {a : Act} {k : Option (SV E) → Chs E → Option R} (heq : ∀ p ∈ eqs, bl_ P E p.1 p.2) (ht : tab.OK P E) (hnx : Fresh g nx) (hE : ER P E z g N a L) (hH : HR P E Bs F0 w0 W z g H) (hI : ∀ w', I w' → Keeps P E z g H W w')
  (h : hi_ P E eqs tab L H nx o k = some r) : Quiet P E Bs F0 w0 W I z g nx H a.eval o k r := by
 have hρ := hE.op
 unfold hi_ at h
 split at h
 ·rename_i f args ats ho
  split at h
  ·rename_i xs hxs
   exact qCall_ok ht hnx hH hI (gP_ hρ hxs) h fun hb w' => oH_ ho rfl hb w'
  ·cases h
 ·rename_i t args ats ho
  split at h
  ·rename_i f ids hL
   split at h
   ·rename_i xs hxs
    obtain ⟨us, hf, hus⟩ := hρ (.tmp t) _ hL
    refine qCall_ok ht hnx hH hI ((gP_ hρ hxs).append (nS_ hus)) h fun hb w' => ?_
    rw [kB_ ho hf hb w']
    simp
   ·cases h
  ·cases h
 ·obtain ⟨s, v, up, g2, hk, hg, hgn, hv, hrun, hup⟩ := qOp_ok (W := W) (I := I) heq hnx.self hρ hH (fun w' hw' => (hI w' hw').1) h
  have hfr : ∀ m, Fresh g2 (nx + 1 + m) := fun m i hi => by rw [hgn i (by omega)]; exact hnx i (by omega)
  have hq : ∀ w', I w' → Oper.quietUponX P w' v ((execOp a.eval o).run P w') := fun w' hw' => by rw [hrun w' hw']; exact ⟨rfl, rfl⟩
  cases up with
  | none =>
   obtain rfl := hup
   exact ⟨s, [], v, g2, hk, Ga.Le.refl g2, hH, hfr _, hv, hq⟩
  | some p =>
   obtain ⟨i, o2⟩ := p
   obtain ⟨o1, h1, h2, h3⟩ := hup
   exact ⟨s, [(i, some o2)], v, g2, hk, hg, hH.up hg h1 h2 h3, hfr _, hv, hq⟩
noncomputable def qFree (P : Program) (E : TE) (eqs : List (Nat × Nat)) (L : Nat → Option (SV E)) (o : Oper) {R : Type} (k : SV E → Up E → Option R) : Option R :=
 match o.op with
 | .move x => qMove E L x k
 | .assign x => qMove E L x k
 | .nilCheck x => qNil E L x k
 | .extract x i => ld_ E L x i k
 | .field T x f => qField P E L T x f k
 | .fieldAddr T x f => i0_ P E L T x f k
 | .unOp _ _ _ => iZ_ P E L o k
 | .binOp op T x y _ => qBin P E L (fun _ => none) eqs o op T x y k
 | .index T x i => qIndex P E L T x i k
 | .slice T x lo hi none => qSlice P E L (fun _ => none) T x lo hi k
 | .convert _ _ _ => iZ_ P E L o k
 | .build T ps => qBuild P E L T ps k
 | .makeFunc f first caps => ka_ E L f first caps k
 | .call { callee := .builtin .len, args := ⟨[x]⟩, argTypes := ⟨[T]⟩ } => qLen P E L (fun _ => none) T x k
 | _ => none
theorem hS_ {eqs : List (Nat × Nat)} {k : SV E → Up E → Option R} (heq : ∀ p ∈ eqs, bl_ P E p.1 p.2) (hρ : OpR P E z g L ρ) (hH : HR P E Bs F0 w0 W z g (fun _ => none)) (h : qFree P E eqs L o k = some r) (I : World → Prop) : Good P E z g nx I (fun _ => none) ρ o k r := by
 unfold qFree at h
 split at h
 case h_1 x ho => exact lc_ (.inl ho) hρ h
 case h_2 x ho => exact lc_ (.inr ho) hρ h
 case h_3 x ho => exact qNil_ok ho hρ h
 case h_4 x i ho => exact nw_ ho hρ h
 case h_5 T x f ho => exact qField_ok ho hρ h
 case h_6 T x f ho => exact lY_ ho hρ h
 case h_7 => exact gN_ hρ h
 case h_8 op T x y yt ho => exact qBin_ok ho heq hρ hH h
 case h_9 T x i ho => exact qIndex_ok ho hρ h
 case h_10 T x lo hi ho => exact qSlice_ok ho hρ hH h
 case h_11 => exact gN_ hρ h
 case h_12 T ps ho => exact qBuild_ok ho hρ h
 case h_13 f first caps ho => exact mc_ ho hρ h
 case h_14 x T ho => exact qLen_ok ho hρ hH h
 case h_15 => cases h
end
end Rt
end Go
namespace Go
open Go.RowKit
section
variable {P : Program} {ops : Array Oper} {md : Region.Mode} {Q : Exit → Act → World → Prop}
def Oper.quietI (P : Program) (o : Oper) (a : Act) (I : World → Prop) (next : Act → Prop) : Prop :=
 ∃ v, (∀ w, I w → Oper.quietUponX P w v ((execOp a.eval o).run P w)) ∧ next (a.put o.dst v)
def bV_ (P : Program) (ops : Array Oper) (tl fr : List Nat) (I : World → Prop) (Q : Exit → Act → World → Prop) : List (Nat × Bool) → Act → World → Prop
 | [], a, w => ∀ X d, Q .normal a (w.ext X d)
 | (i, true) :: rest, a, w => match ops[i]? with
  | none => False
  | some o => ∀ X d, wpList P ops (Exit.then (fun a' w' => (tl.contains i = false → I w → I w') ∧ bV_ P ops tl fr I Q rest a' w') (dh_ Q)) [o] a (w.ext X d)
 | (i, false) :: rest, a, w => match ops[i]? with
  | none => False
  | some o => if Region.wanted o (yielded ops a.tmps) then o.quietI P a (if fr.contains i then fun _ => True else I) (fun a' => bV_ P ops tl fr I Q rest a' w) else bV_ P ops tl fr I Q rest (a.put o.dst undef) w
def fC_ (P : Program) (md : Region.Mode) (ops : Array Oper) (tl : List Nat) (I : World → Prop) (Q : Exit → Act → World → Prop) : Nat → Bool → Array Bool → Act → World → Prop
 | 0, _, listed, a, w => Region.ready md ops listed = [] ∧ ∀ X d, Q .normal a (w.ext X d)
 | fuel + 1, st, listed, a, w =>
  (Region.ready md ops listed = [] → ∀ X d, Q .normal a (w.ext X d)) ∧
  ∀ i ∈ Region.ready md ops listed, ∀ X d, wpOp P ops (dh_ Q) i (fun a' w' => ((st && !(tl.contains i)) = true → I w') ∧ fC_ P md ops tl I Q fuel (st && !(tl.contains i)) (listed.setIfInBounds i true) a' w') a (w.ext X d)
theorem i7_ {I : World → Prop} {tl : List Nat} : ∀ (fuel : Nat) (st : Bool) (listed : Array Bool) (a : Act) (w : World), fC_ P md ops tl I Q fuel st listed a w → wpAny P md ops Q fuel listed a w
 | 0, _, _, a, w, h => ⟨h.1, by have := h.2 #[] w.drawn; rwa [← World.self_as_ext] at this⟩
 | fuel + 1, _, _, a, w, h => ⟨fun h0 => by have := h.1 h0 #[] w.drawn; rwa [← World.self_as_ext] at this, fun i hi => by
   have := h.2 i hi #[] w.drawn
   rw [← World.self_as_ext] at this
   exact wpOp_out (wpOp_mono (fun a' w' h' => i7_ fuel _ _ a' w' h'.2) this)⟩
theorem hj_ {I : World → Prop} {tl : List Nat} : ∀ (fuel : Nat) (st : Bool) (listed : Array Bool) (a : Act) (w : World) (X : Array Obj) (d : Nat), fC_ P md ops tl I Q fuel st listed a w → fC_ P md ops tl I Q fuel st listed a (w.ext X d)
 | 0, _, _, a, w, X, d, h => ⟨h.1, fun Y e => by rw [World.ext_ext]; exact h.2 _ _⟩
 | fuel + 1, _, _, a, w, X, d, h => ⟨fun h0 Y e => by rw [World.ext_ext]; exact h.1 h0 _ _, fun i hi Y e => by rw [World.ext_ext]; exact h.2 i hi _ _⟩
def YieldsI (P : Program) (ops : Array Oper) (I : World → Prop) (o : Oper) (v : Value) (a : Act) : Prop :=
 (Region.wanted o (yielded ops a.tmps) = true ∧ ∀ w, I w → Oper.quietUponX P w v ((execOp a.eval o).run P w)) ∨
 (Region.wanted o (yielded ops a.tmps) = false ∧ v = undef)
theorem YieldsI.of_same {I : World → Prop} {o : Oper} {v : Value} {a a' : Act} (hy : YieldsI P ops I o v a) (he : execOp a'.eval o = execOp a.eval o)
  (hw : Region.wanted o (yielded ops a'.tmps) = Region.wanted o (yielded ops a.tmps)) : YieldsI P ops I o v a' := by
 unfold YieldsI at *
 rw [he, hw]
 exact hy
theorem YieldsI.wpOp {I : World → Prop} {w : World} {i : Nat} {o : Oper} {v : Value} {a : Act} (hi : ops[i]? = some o) (hy : YieldsI P ops I o v a) (hw : I w)
  {K : Act → World → Prop} (h : ∀ w', Ext w w' → K (a.put o.dst v) w') : wpOp P ops Q i K a w := by
 unfold Go.wpOp
 simp only [hi]
 rcases hy with ⟨hw1, hv⟩ | ⟨hw1, rfl⟩
 ·simp only [hw1, if_true]
  left
  unfold Oper.wp
  have h3 := hv w hw
  generalize (execOp a.eval o).run P w = r at *
  cases r with
  | ok n w' =>
   cases n <;> simp only [Oper.quietUponX] at h3 <;> simp only [Oper.upon]
   case value u => obtain ⟨e1, e2⟩ := h3; rw [e1, e2]; exact h _ (Ext.refl _)
   case skip => obtain ⟨e1, e2⟩ := h3; rw [e1, ← e2]; exact h _ (Ext.refl _)
   case enter f args =>
    obtain ⟨e1, hc⟩ := h3
    rw [e1]
    exact hc.mono fun e w'' ⟨he, hw''⟩ => by subst he; exact h _ hw''
  | halt x w' => simp only [Oper.quietUponX] at h3
 ·simp only [hw1, Bool.false_eq_true, if_false]; exact h _ (Ext.refl _)
theorem wpOp_putI {I : World → Prop} {j : Nat} {oi oj : Oper} {v : Value} (hj : ops[j]? = some oj) (hap : oi.apart ops oj = true)
  (hsi : ∀ cs b, oi.op ≠ .select cs b) (hsj : ∀ cs b, oj.op ≠ .select cs b) {K : Act → World → Prop} {a : Act} {w : World}
  (hy : YieldsI P ops I oi v a) (h : wpOp P ops (dh_ Q) j K (a.put oi.dst v) w) :
  wpOp P ops (dh_ Q) j (fun a' w' => YieldsI P ops I oi v a' ∧ K (a'.put oi.dst v) w') a w := by
 obtain ⟨h1, h2, h3⟩ := Oper.apart_spec hap
 have keep : ∀ (a : Act), YieldsI P ops I oi v a → ∀ u, YieldsI P ops I oi v (a.put oj.dst u) := fun a hy u =>
  hy.of_same (execOp_put oi hsi a oj.dst u h3) (wanted_put oi a oj.dst u h3)
 have keepD : ∀ (a : Act) (ds : List Deferred), YieldsI P ops I oi v a → YieldsI P ops I oi v { a with defers := ds } := fun a ds hy => hy
 unfold Go.wpOp at *
 simp only [hj] at *
 rw [wanted_put oj a oi.dst v h1] at h
 split
 ·rename_i hw
  simp only [hw, if_true] at h
  rcases h with h | ⟨h, hl⟩
  ·left
   unfold Oper.wp at *
   rw [execOp_put oj hsj a oi.dst v h1] at h
   generalize (execOp a.eval oj).run P w = r at *
   cases r with
   | ok n w' =>
    cases n <;> simp only [Oper.upon] at h ⊢
    case value u => exact ⟨keep a hy u, by rw [← Act.put_comm a v u h2]; exact h⟩
    case skip => exact ⟨keep a hy _, by rw [← Act.put_comm a v undef h2]; exact h⟩
    case defer dd =>
     refine ⟨keep _ (keepD a _ hy) _, ?_⟩
     rw [← Act.put_comm _ v undef h2]
     have := h
     rw [Act.put_defers] at this
     exact this
    case enter f args =>
     exact Calls.mono h (fun e w'' he => by
      cases e with
      | returned u => exact ⟨keep a hy u, by rw [← Act.put_comm a v u h2]; exact he⟩
      | panicked chain => exact he
      | outgrown => exact he)
    case row row args =>
     exact Rows.mono h (fun u w'' he => ⟨keep a hy u, by rw [← Act.put_comm a v u h2]; exact he⟩)
   | halt x w' => cases x <;> simp only [Oper.upon] at h ⊢ <;> exact h
  ·right
   refine ⟨?_, hl⟩
   unfold Oper.asks at *
   rw [execOp_put oj hsj a oi.dst v h1] at h
   exact h
 ·rename_i hw
  simp only [hw] at h
  exact ⟨keep a hy _, by rw [← Act.put_comm a v undef h2]; exact h⟩
theorem dc_ {I : World → Prop} (hI : ∀ w w', I w → Ext w w' → I w') {tl : List Nat} {i fu : Nat} (fre : Bool) (hit : tl.contains i = false) (htl : fre = false → ∀ j ∈ tl, dq_ md ops fu j i = true) {oi : Oper} {v : Value} (hi : ops[i]? = some oi) (hsel : ∀ (j : Nat) (o : Oper) cs b, ops[j]? = some o → o.op ≠ .select cs b) :
  ∀ (fuel : Nat) (st : Bool) (listed : Array Bool) (a : Act) (w : World), (st = true → I w) → (fre = false → st = true) → hd_ md ops listed →
   (∀ j oj, ops[j]? = some oj → j ≠ i → listed.getD j true = false → (∀ e ∈ oj.after, Region.binds md e = true → e.on ≠ i) → oi.apart ops oj = true) →
   i ∈ Region.ready md ops listed → YieldsI P ops (if fre then fun _ => True else I) oi v a →
   fC_ P md ops tl I Q fuel st (listed.setIfInBounds i true) (a.put oi.dst v) w → fC_ P md ops tl I Q (fuel + 1) st listed a w := by
 have stands : ∀ {st : Bool} {w w' : World}, (st = true → I w) → (fre = false → st = true) → Ext w w' → (if fre then fun _ => True else I) w' := fun {st w w'} h1 h2 hx => by
  cases fre with
  | true => trivial
  | false => exact hI _ _ (h1 (h2 rfl)) hx
 intro fuel
 induction fuel with
 | zero =>
  intro st listed a w hW hfr hcl _ hr hy H
  refine ⟨fun h => (by rw [h] at hr; cases hr), fun j hj X d => ?_⟩
  by_cases hji : j = i
  ·subst hji
   rw [hit]
   simp only [Bool.not_false, Bool.and_true]
   exact hy.wpOp hi (stands hW hfr ⟨X, d, rfl⟩) fun w' hw' => ⟨fun hst => hI _ _ (hI _ _ (hW hst) ⟨X, d, rfl⟩) hw', by
    obtain ⟨Y, e, rfl⟩ := hw'
    rw [World.ext_ext]
    exact hj_ _ _ _ _ _ _ _ H⟩
  ·have := ready_mono hj hji
   rw [H.1] at this
   cases this
 | succ fuel ih =>
  intro st listed a w hW hfr hcl hfree hr hy H
  refine ⟨fun h => (by rw [h] at hr; cases hr), fun j hj X d => ?_⟩
  by_cases hji : j = i
  ·subst hji
   rw [hit]
   simp only [Bool.not_false, Bool.and_true]
   exact hy.wpOp hi (stands hW hfr ⟨X, d, rfl⟩) fun w' hw' => ⟨fun hst => hI _ _ (hI _ _ (hW hst) ⟨X, d, rfl⟩) hw', by
    obtain ⟨Y, e, rfl⟩ := hw'
    rw [World.ext_ext]
    exact hj_ _ _ _ _ _ _ _ H⟩
  ·have h1 := H.2 j (ready_mono hj hji) X d
   obtain ⟨hjun, oj, hoj, hall⟩ := mem_ready.1 hj
   have hnot : ∀ e ∈ oj.after, Region.binds md e = true → e.on ≠ i := fun e he hb heq => by
    have h1 := hall e he hb
    have h0 := (mem_ready.1 hr).1
    rw [heq] at h1
    rcases Nat.lt_or_ge i listed.size with h' | h'
    ·simp [h'] at h0 h1; rw [h0] at h1; cases h1
    ·simp [Array.getElem?_eq_none h'] at h1
   have h2 := wpOp_putI hoj (hfree j oj hoj hji hjun hnot) (fun cs b => hsel i oi cs b hi) (fun cs b => hsel j oj cs b hoj) hy h1
   have hfree' : ∀ k ok, ops[k]? = some ok → k ≠ i → (listed.setIfInBounds j true).getD k true = false →
     (∀ e ∈ ok.after, Region.binds md e = true → e.on ≠ i) → oi.apart ops ok = true := fun k ok hk hki hun hno => by
    refine hfree k ok hk hki ?_ hno
    by_cases hjk : j = k
    ·subst hjk; exact hjun
    ·rw [getD_set_ne true hjk] at hun; exact hun
   have hjt : fre = false → tl.contains j = false := fun hfre => by
    cases hc : tl.contains j with
    | false => rfl
    | true =>
     have hw := htl hfre j (by simpa using hc)
     have := l3_ hcl fu j i oj hoj hall hw
     have h0 := (mem_ready.1 hr).1
     rcases Nat.lt_or_ge i listed.size with h' | h'
     ·simp [h'] at h0 this; rw [h0] at this; cases this
     ·simp [Array.getElem?_eq_none h'] at h0
   refine wpOp_mono (fun a' w' h3 => ⟨h3.2.1, ih (st && !(tl.contains j)) (listed.setIfInBounds j true) a' w' h3.2.1 (fun hfre => by rw [hfr hfre, hjt hfre]; rfl) (ds_ hcl hj) hfree' (ready_mono hr (Ne.symm hji)) h3.1 ?_⟩) h2
   rw [Array.setIfInBounds_comm _ _ hji]
   exact h3.2.2
def dY_ (fr : List Nat) : List (Nat × Bool) → Bool
 | [] => false
 | (i, b) :: r => (!b && !(fr.contains i)) || dY_ fr r
def eM_ (md : Region.Mode) (ops : Array Oper) (tl fr : List Nat) : List (Nat × Bool) → Array Bool → Bool
 | [], listed => (Region.ready md ops listed).isEmpty
 | (i, true) :: rest, listed => Region.ready md ops listed == [i] && (!(tl.contains i) || !(dY_ fr rest)) && eM_ md ops tl fr rest (listed.setIfInBounds i true)
 | (i, false) :: rest, listed => (Region.ready md ops listed).contains i && Region.free md ops listed i && !(tl.contains i) && eM_ md ops tl fr rest (listed.setIfInBounds i true)
def mixBI (md : Region.Mode) (ops : Array Oper) (tl fr : List Nat) (ord : List (Nat × Bool)) : Bool :=
 Region.noSelect ops && eM_ md ops tl fr ord (Array.replicate ops.size false) && decide (ord.length = ops.size) &&
  ord.all fun p => p.2 || (fr.contains p.1 || tl.all fun j => dq_ md ops ops.size j p.1)
theorem dZ_ {I : World → Prop} (hI : ∀ w w', I w → Ext w w' → I w') {tl fr : List Nat} {fu : Nat} (hs : Region.noSelect ops = true) : ∀ (ord : List (Nat × Bool)) (st : Bool) (listed : Array Bool) (a : Act) (w : World), (st = true → I w) → (dY_ fr ord = true → st = true) → hd_ md ops listed → (∀ i, (i, false) ∈ ord → fr.contains i = false → ∀ j ∈ tl, dq_ md ops fu j i = true) →
  eM_ md ops tl fr ord listed = true → bV_ P ops tl fr I Q ord a w → fC_ P md ops tl I Q ord.length st listed a w
 | [], _, _, _, _, _, _, _, _, hB, h => ⟨by simpa [eM_] using hB, h⟩
 | (i, true) :: rest, st, listed, a, w, hW, hst, hcl, hT, hB, h => by
  simp only [eM_, Bool.and_eq_true, beq_iff_eq] at hB
  obtain ⟨⟨hr, hti⟩, hB'⟩ := hB
  refine ⟨fun h0 => (by rw [h0] at hr; cases hr), fun j hj X d => ?_⟩
  rw [hr] at hj
  obtain rfl : j = i := by simpa using hj
  have hm : j ∈ Region.ready md ops listed := by rw [hr]; simp
  obtain ⟨_, o, ho, _⟩ := mem_ready.1 hm
  simp only [bV_, ho] at h
  have h' := h X d
  have hT' : ∀ k, (k, false) ∈ rest → fr.contains k = false → ∀ j ∈ tl, dq_ md ops fu j k = true := fun k hk => hT k (List.mem_cons_of_mem _ hk)
  have hcl' := ds_ hcl hm
  have hst' : dY_ fr rest = true → (st && !(tl.contains j)) = true := fun hc => by
   rw [hc] at hti
   have h1 : tl.contains j = false := by simpa using hti
   rw [hst (by simp [dY_, hc]), h1]; rfl
  have hob : ∀ w', (tl.contains j = false → I w → I w') → ((st && !(tl.contains j)) = true → I w') := fun w' h1 h2 => by
   simp only [Bool.and_eq_true, Bool.not_eq_true'] at h2
   exact h1 h2.2 (hW h2.1)
  unfold wpOp
  simp only [ho]
  unfold wpList at h'
  split at h'
  ·rename_i hw
   rw [if_pos hw]
   refine h'.imp (fun h' => ?_) (fun h' => ⟨h'.1, h'.2⟩)
   exact Oper.wp_out (fun a' w' hk => ⟨hob w' hk.1, dZ_ hI hs rest _ _ a' w' (hob w' hk.1) hst' hcl' hT' hB' hk.2⟩) (fun ch a w h => h) (fun h => h) h'
  ·rename_i hw
   rw [if_neg hw]
   exact ⟨hob _ h'.1, dZ_ hI hs rest _ _ _ _ (hob _ h'.1) hst' hcl' hT' hB' h'.2⟩
 | (i, false) :: rest, st, listed, a, w, hW, hst, hcl, hT, hB, h => by
  simp only [eM_, Bool.and_eq_true, Bool.not_eq_true'] at hB
  obtain ⟨⟨⟨hr, hf⟩, hit⟩, hB'⟩ := hB
  have hr' : i ∈ Region.ready md ops listed := by simpa using hr
  obtain ⟨_, o, ho, _⟩ := mem_ready.1 hr'
  simp only [bV_, ho] at h
  have hT' : ∀ k, (k, false) ∈ rest → fr.contains k = false → ∀ j ∈ tl, dq_ md ops fu j k = true := fun k hk => hT k (List.mem_cons_of_mem _ hk)
  have hcl' := ds_ hcl hr'
  have hst' : dY_ fr rest = true → st = true := fun hc => hst (by simp [dY_, hc])
  have hfre : fr.contains i = false → st = true := fun hc => hst (by simp only [dY_, hc]; rfl)
  split at h
  ·rename_i hw
   obtain ⟨v, hv, hn⟩ := h
   exact dc_ hI (fr.contains i) hit (hT i (by simp)) ho (Region.noSelect_spec hs) rest.length st listed a w hW hfre hcl (Region.free_spec ho hf) hr' (.inl ⟨hw, hv⟩)
    (dZ_ hI hs rest _ _ _ w hW hst' hcl' hT' hB' hn)
  ·rename_i hw
   exact dc_ hI (fr.contains i) hit (hT i (by simp)) ho (Region.noSelect_spec hs) rest.length st listed a w hW hfre hcl (Region.free_spec ho hf) hr' (.inr ⟨by simpa using hw, rfl⟩)
    (dZ_ hI hs rest _ _ _ w hW hst' hcl' hT' hB' h)
theorem kT_ {I : World → Prop} (hI : ∀ w w', I w → Ext w w' → I w') {id : Nat} {l : List Oper} {a : Act} {w : World} (tl fr : List Nat) (ord : List (Nat × Bool)) (hm : P.follows .mixedOrders = true) (hB : mixBI .any l.toArray tl fr ord = true)
  (hw : I w) (h : bV_ P l.toArray tl fr I Q ord a w) : (Code.region id l.toArray true).wp P Q a w := by
 simp only [mixBI, Bool.and_eq_true, decide_eq_true_eq] at hB
 obtain ⟨⟨⟨hs, hf⟩, hlen⟩, htl⟩ := hB
 refine wp_region_any hm (i7_ (I := I) (tl := tl) _ true _ _ _ ?_)
 have := dZ_ hI (md := .any) (tl := tl) (fr := fr) (fu := l.toArray.size) hs ord true (Array.replicate l.toArray.size false) a w (fun _ => hw) (fun _ => rfl) (jx_ _) (fun i hi hfr j hj => by
  have := List.all_eq_true.1 htl _ hi
  simp only [Bool.false_or, hfr] at this
  exact List.all_eq_true.1 this j hj) hf h
 have h2 := hj_ _ _ _ _ _ #[] (w.drawn + 1) this
 rw [← World.drew_as_ext, hlen] at h2
 exact h2
theorem wpMixI_nil {tl fr : List Nat} {I : World → Prop} {a : Act} {w : World} (h : ∀ X d, Q .normal a (w.ext X d)) : bV_ P ops tl fr I Q [] a w := h
theorem eu_ {tl fr : List Nat} {l : List Oper} {I : World → Prop} {i : Nat} {rest : List (Nat × Bool)} {a : Act} {w : World} (o : Oper) (ho : l[i]? = some o)
  (h : ∀ K : Act → Prop, (∀ a, bV_ P l.toArray tl fr I Q rest a w → K a) → if Region.wanted o (yielded l.toArray a.tmps) then o.quietI P a (if fr.contains i then fun _ => True else I) K else K (a.put o.dst undef)) :
  bV_ P l.toArray tl fr I Q ((i, false) :: rest) a w := by
 have ho' : l.toArray[i]? = some o := by simpa using ho
 simp only [bV_, ho']
 exact h _ (fun _ h => h)
theorem nx_ {tl fr : List Nat} {l : List Oper} {I : World → Prop} {i : Nat} {rest : List (Nat × Bool)} {a : Act} {w : World} (o : Oper) (ho : l[i]? = some o)
  (h : ∀ K : Act → World → Prop, (∀ a' w', (tl.contains i = false → I w → I w') → bV_ P l.toArray tl fr I Q rest a' w' → K a' w') → ∀ X d, wpList P l.toArray (Exit.then K (dh_ Q)) [o] a (w.ext X d)) :
  bV_ P l.toArray tl fr I Q ((i, true) :: rest) a w := by
 have ho' : l.toArray[i]? = some o := by simpa using ho
 simp only [bV_, ho']
 exact h _ (fun _ _ h1 h2 => ⟨h1, h2⟩)
def cU_ (P : Program) (ops : Array Oper) (tl fr : List Nat) (I : World → Prop) (Q : Exit → Act → World → Prop) (fl : Nat) (post : List (Nat × Bool)) : List (Nat × Bool) → Act → World → Prop
 | [], a, w => bV_ P ops tl fr I Q ((fl, true) :: post) a w
 | (i, true) :: pre, a, w => (match ops[i]? with
  | none => False
  | some o => ∀ X d, wpList P ops (Exit.then (fun a' w' => (tl.contains i = false → I w → I w') ∧ cU_ P ops tl fr I Q fl post pre a' w') (dh_ Q)) [o] a (w.ext X d)) ∧
  (match ops[fl]? with
  | none => False
  | some o => ∀ X d, wpList P ops (Exit.then (fun a' w' => (tl.contains fl = false → I w → I w') ∧ bV_ P ops tl fr I Q ((i, true) :: pre ++ post) a' w') (dh_ Q)) [o] a (w.ext X d))
 | (i, false) :: pre, a, w => match ops[i]? with
  | none => False
  | some o => if Region.wanted o (yielded ops a.tmps) then o.quietI P a (if fr.contains i then fun _ => True else I) (fun a' => cU_ P ops tl fr I Q fl post pre a' w) else cU_ P ops tl fr I Q fl post pre (a.put o.dst undef) w
def hT_ (md : Region.Mode) (ops : Array Oper) (tl fr : List Nat) (fl : Nat) (post : List (Nat × Bool)) : List (Nat × Bool) → Array Bool → Bool
 | [], listed => eM_ md ops tl fr ((fl, true) :: post) listed
 | (i, true) :: pre, listed => (Region.ready md ops listed).contains i && (Region.ready md ops listed).contains fl && (Region.ready md ops listed).all (fun j => j == i || j == fl) && (!(tl.contains i) || !(dY_ fr (pre ++ post))) &&
  hT_ md ops tl fr fl post pre (listed.setIfInBounds i true) && eM_ md ops tl fr ((i, true) :: pre ++ post) (listed.setIfInBounds fl true)
 | (i, false) :: pre, listed => (Region.ready md ops listed).contains i && Region.free md ops listed i && !(tl.contains i) && hT_ md ops tl fr fl post pre (listed.setIfInBounds i true)
def mixBF (md : Region.Mode) (ops : Array Oper) (tl fr : List Nat) (fl : Nat) (pre post : List (Nat × Bool)) : Bool :=
 Region.noSelect ops && hT_ md ops tl fr fl post pre (Array.replicate ops.size false) && decide (pre.length + (post.length + 1) = ops.size) && !(tl.contains fl) &&
  (pre ++ post).all fun p => p.2 || (fr.contains p.1 || tl.all fun j => dq_ md ops ops.size j p.1)
theorem gj_ {I : World → Prop} (hI : ∀ w w', I w → Ext w w' → I w') {tl fr : List Nat} {fu fl : Nat} {post : List (Nat × Bool)} (hs : Region.noSelect ops = true) (hft : tl.contains fl = false) : ∀ (pre : List (Nat × Bool)) (st : Bool) (listed : Array Bool) (a : Act) (w : World), (st = true → I w) → (dY_ fr (pre ++ post) = true → st = true) → hd_ md ops listed →
  (∀ i, (i, false) ∈ pre ++ post → fr.contains i = false → ∀ j ∈ tl, dq_ md ops fu j i = true) →
  hT_ md ops tl fr fl post pre listed = true → cU_ P ops tl fr I Q fl post pre a w → fC_ P md ops tl I Q (pre.length + (post.length + 1)) st listed a w
 | [], st, listed, a, w, hW, hst, hcl, hT, hB, h => by
  rw [List.length_nil, Nat.zero_add]
  exact dZ_ hI hs ((fl, true) :: post) st listed a w hW (fun hc => hst (by simpa [dY_] using hc)) hcl (fun i hi => hT i (by simpa using hi)) hB h
 | (i, true) :: pre, st, listed, a, w, hW, hst, hcl, hT, hB, h => by
  simp only [hT_, Bool.and_eq_true] at hB
  obtain ⟨⟨⟨⟨⟨hri, hrf⟩, hall⟩, hti⟩, hB1⟩, hB2⟩ := hB
  rw [List.length_cons, show pre.length + 1 + (post.length + 1) = (pre.length + (post.length + 1)) + 1 by omega]
  refine ⟨fun h0 => (by rw [h0] at hri; simp at hri), fun j hj X d => ?_⟩
  obtain ⟨h1, h2⟩ := h
  by_cases hji : j = i
  ·subst hji
   obtain ⟨_, o, ho, _⟩ := mem_ready.1 hj
   simp only [ho] at h1
   have h' := h1 X d
   have hT' : ∀ k, (k, false) ∈ pre ++ post → fr.contains k = false → ∀ j ∈ tl, dq_ md ops fu j k = true := fun k hk => hT k (by simp only [List.cons_append]; exact List.mem_cons_of_mem _ hk)
   have hcl' := ds_ hcl hj
   have hst' : dY_ fr (pre ++ post) = true → (st && !(tl.contains j)) = true := fun hc => by
    rw [hc] at hti
    have h3 : tl.contains j = false := by simpa using hti
    rw [hst (by simp [dY_, hc]), h3]; rfl
   have hob : ∀ w', (tl.contains j = false → I w → I w') → ((st && !(tl.contains j)) = true → I w') := fun w' h3 h4 => by
    simp only [Bool.and_eq_true, Bool.not_eq_true'] at h4
    exact h3 h4.2 (hW h4.1)
   unfold wpOp
   simp only [ho]
   unfold wpList at h'
   split at h'
   ·rename_i hw
    rw [if_pos hw]
    refine h'.imp (fun h' => ?_) (fun h' => ⟨h'.1, h'.2⟩)
    exact Oper.wp_out (fun a' w' hk => ⟨hob w' hk.1, gj_ hI hs hft pre _ _ a' w' (hob w' hk.1) hst' hcl' hT' hB1 hk.2⟩) (fun ch a w h => h) (fun h => h) h'
   ·rename_i hw
    rw [if_neg hw]
    exact ⟨hob _ h'.1, gj_ hI hs hft pre _ _ _ _ (hob _ h'.1) hst' hcl' hT' hB1 h'.2⟩
  ·have hjf : j = fl := by
    have := List.all_eq_true.1 hall j hj
    simp only [Bool.or_eq_true, beq_iff_eq] at this
    rcases this with h3 | h3
    ·exact absurd h3 hji
    ·exact h3
   subst hjf
   obtain ⟨_, o, ho, _⟩ := mem_ready.1 hj
   simp only [ho] at h2
   have h' := h2 X d
   have hcl' := ds_ hcl hj
   have hst' : dY_ fr ((i, true) :: pre ++ post) = true → (st && !(tl.contains j)) = true := fun hc => by
    rw [hft, hst hc]; rfl
   have hob : ∀ w', (tl.contains j = false → I w → I w') → ((st && !(tl.contains j)) = true → I w') := fun w' h3 h4 => by
    simp only [Bool.and_eq_true, Bool.not_eq_true'] at h4
    exact h3 h4.2 (hW h4.1)
   have hlen : pre.length + (post.length + 1) = ((i, true) :: pre ++ post).length := by simp; omega
   rw [hlen]
   unfold wpOp
   simp only [ho]
   unfold wpList at h'
   split at h'
   ·rename_i hw
    rw [if_pos hw]
    refine h'.imp (fun h' => ?_) (fun h' => ⟨h'.1, h'.2⟩)
    exact Oper.wp_out (fun a' w' hk => ⟨hob w' hk.1, dZ_ hI hs _ _ _ a' w' (hob w' hk.1) hst' hcl' hT hB2 hk.2⟩) (fun ch a w h => h) (fun h => h) h'
   ·rename_i hw
    rw [if_neg hw]
    exact ⟨hob _ h'.1, dZ_ hI hs _ _ _ _ _ (hob _ h'.1) hst' hcl' hT hB2 h'.2⟩
 | (i, false) :: pre, st, listed, a, w, hW, hst, hcl, hT, hB, h => by
  simp only [hT_, Bool.and_eq_true, Bool.not_eq_true'] at hB
  obtain ⟨⟨⟨hr, hf⟩, hit⟩, hB'⟩ := hB
  rw [List.length_cons, show pre.length + 1 + (post.length + 1) = (pre.length + (post.length + 1)) + 1 by omega]
  have hr' : i ∈ Region.ready md ops listed := by simpa using hr
  obtain ⟨_, o, ho, _⟩ := mem_ready.1 hr'
  simp only [cU_, ho] at h
  have hT' : ∀ k, (k, false) ∈ pre ++ post → fr.contains k = false → ∀ j ∈ tl, dq_ md ops fu j k = true := fun k hk => hT k (by simp only [List.cons_append]; exact List.mem_cons_of_mem _ hk)
  have hcl' := ds_ hcl hr'
  have hst' : dY_ fr (pre ++ post) = true → st = true := fun hc => hst (by simp [dY_, hc])
  have hfre : fr.contains i = false → st = true := fun hc => hst (by simp only [List.cons_append, dY_, hc]; rfl)
  split at h
  ·rename_i hw
   obtain ⟨v, hv, hn⟩ := h
   exact dc_ hI (fr.contains i) hit (hT i (by simp)) ho (Region.noSelect_spec hs) _ st listed a w hW hfre hcl (Region.free_spec ho hf) hr' (.inl ⟨hw, hv⟩)
    (gj_ hI hs hft pre _ _ _ w hW hst' hcl' hT' hB' hn)
  ·rename_i hw
   exact dc_ hI (fr.contains i) hit (hT i (by simp)) ho (Region.noSelect_spec hs) _ st listed a w hW hfre hcl (Region.free_spec ho hf) hr' (.inr ⟨by simpa using hw, rfl⟩)
    (gj_ hI hs hft pre _ _ _ w hW hst' hcl' hT' hB' h)
theorem p6_ {I : World → Prop} (hI : ∀ w w', I w → Ext w w' → I w') {id fl : Nat} {l : List Oper} {a : Act} {w : World} (tl fr : List Nat) (pre post : List (Nat × Bool)) (hm : P.follows .mixedOrders = true) (hB : mixBF .any l.toArray tl fr fl pre post = true)
  (hw : I w) (h : cU_ P l.toArray tl fr I Q fl post pre a w) : (Code.region id l.toArray true).wp P Q a w := by
 simp only [mixBF, Bool.and_eq_true, decide_eq_true_eq, Bool.not_eq_true'] at hB
 obtain ⟨⟨⟨⟨hs, hf⟩, hlen⟩, hft⟩, htl⟩ := hB
 refine wp_region_any hm (i7_ (I := I) (tl := tl) _ true _ _ _ ?_)
 have := gj_ hI (md := .any) (tl := tl) (fr := fr) (fu := l.toArray.size) hs hft pre true (Array.replicate l.toArray.size false) a w (fun _ => hw) (fun _ => rfl) (jx_ _) (fun i hi hfr j hj => by
  have := List.all_eq_true.1 htl _ hi
  simp only [Bool.false_or, hfr] at this
  exact List.all_eq_true.1 this j hj) hf h
 have h2 := hj_ _ _ _ _ _ #[] (w.drawn + 1) this
 rw [← World.drew_as_ext, hlen] at h2
 exact h2
theorem fD_ {tl fr : List Nat} {l : List Oper} {I : World → Prop} {i fl : Nat} {pre post : List (Nat × Bool)} {a : Act} {w : World} (o : Oper) (ho : l[i]? = some o)
  (h : ∀ K : Act → Prop, (∀ a, cU_ P l.toArray tl fr I Q fl post pre a w → K a) → if Region.wanted o (yielded l.toArray a.tmps) then o.quietI P a (if fr.contains i then fun _ => True else I) K else K (a.put o.dst undef)) :
  cU_ P l.toArray tl fr I Q fl post ((i, false) :: pre) a w := by
 have ho' : l.toArray[i]? = some o := by simpa using ho
 simp only [cU_, ho']
 exact h _ (fun _ h => h)
theorem wpMixF_loud {tl fr : List Nat} {l : List Oper} {I : World → Prop} {i fl : Nat} {pre post : List (Nat × Bool)} {a : Act} {w : World} (o fo : Oper) (ho : l[i]? = some o) (hfo : l[fl]? = some fo)
  (h : ∀ K : Act → World → Prop, (∀ a' w', (tl.contains i = false → I w → I w') → cU_ P l.toArray tl fr I Q fl post pre a' w' → K a' w') → ∀ X d, wpList P l.toArray (Exit.then K (dh_ Q)) [o] a (w.ext X d))
  (hf : ∀ K : Act → World → Prop, (∀ a' w', (tl.contains fl = false → I w → I w') → bV_ P l.toArray tl fr I Q ((i, true) :: pre ++ post) a' w' → K a' w') → ∀ X d, wpList P l.toArray (Exit.then K (dh_ Q)) [fo] a (w.ext X d)) :
  cU_ P l.toArray tl fr I Q fl post ((i, true) :: pre) a w := by
 have ho' : l.toArray[i]? = some o := by simpa using ho
 have hfo' : l.toArray[fl]? = some fo := by simpa using hfo
 simp only [cU_, ho', hfo']
 exact ⟨h _ (fun _ _ h1 h2 => ⟨h1, h2⟩), hf _ (fun _ _ h1 h2 => ⟨h1, h2⟩)⟩
inductive OT where
 | nil
 | free (i : Nat) (t : OT)
 | alt (i : Nat) (t r : OT)
def OT.ids : OT → List Nat
 | .alt i _ r => i :: r.ids
 | _ => []
def OT.dep : OT → Nat
 | .nil => 0
 | .free _ t => t.dep + 1
 | .alt _ t r => max (t.dep + 1) r.dep
def OT.tlO : OT → List Nat
 | .nil => []
 | .free _ t => t.tlO
 | .alt i t r => i :: (t.tlO ++ r.tlO)
def OT.frO : OT → List Nat
 | .nil => []
 | .free i t => i :: t.frO
 | .alt _ t r => t.frO ++ r.frO
def chkO (md : Region.Mode) (ops : Array Oper) (tl fr : List Nat) : OT → Bool → Array Bool → Bool
 | .nil, false, listed => (Region.ready md ops listed).isEmpty
 | .nil, true, _ => true
 | .free i t, false, listed => (Region.ready md ops listed).contains i && Region.free md ops listed i && !(tl.contains i) && fr.contains i && chkO md ops tl fr t false (listed.setIfInBounds i true)
 | .free _ _, true, _ => false
 | .alt i t r, c, listed => (c || (!((Region.ready md ops listed).isEmpty) && (Region.ready md ops listed).all fun j => (i :: r.ids).contains j)) && tl.contains i && chkO md ops tl fr t false (listed.setIfInBounds i true) && chkO md ops tl fr r true listed
def wpO (P : Program) (ops : Array Oper) (Q : Exit → Act → World → Prop) : OT → Bool → Act → World → Prop
 | .nil, false, a, w => ∀ X d, Q .normal a (w.ext X d)
 | .nil, true, _, _ => True
 | .free i t, _, a, w => match ops[i]? with
  | none => False
  | some o => if Region.wanted o (yielded ops a.tmps) then o.quietI P a (fun _ => True) (fun a' => wpO P ops Q t false a' w) else wpO P ops Q t false (a.put o.dst undef) w
 | .alt i t r, _, a, w => (match ops[i]? with
  | none => False
  | some o => ∀ X d, wpList P ops (Exit.then (fun a' w' => wpO P ops Q t false a' w') (dh_ Q)) [o] a (w.ext X d)) ∧ wpO P ops Q r true a w
theorem wpO_pick {tl fr : List Nat} {i : Nat} {listed : Array Bool} {a : Act} {w : World} : ∀ {t : OT} {c : Bool}, i ∈ t.ids → chkO md ops tl fr t c listed = true → wpO P ops Q t c a w → ∃ t', t'.dep + 1 ≤ t.dep ∧ tl.contains i = true ∧ chkO md ops tl fr t' false (listed.setIfInBounds i true) = true ∧
  match ops[i]? with
  | none => False
  | some o => ∀ X d, wpList P ops (Exit.then (fun a' w' => wpO P ops Q t' false a' w') (dh_ Q)) [o] a (w.ext X d)
 | .nil, _, h, _, _ => nomatch h
 | .free _ _, _, h, _, _ => nomatch h
 | .alt j t r, c, h, hB, hw => by
  simp only [chkO, Bool.and_eq_true] at hB
  rcases List.mem_cons.1 h with rfl | h
  ·exact ⟨t, Nat.le_max_left _ _, hB.1.1.2, hB.1.2, hw.1⟩
  ·obtain ⟨t', h1, h2⟩ := wpO_pick h hB.2 hw.2
   exact ⟨t', Nat.le_trans h1 (Nat.le_max_right _ _), h2⟩
theorem wpAnyI_O {I : World → Prop} (hI : ∀ w w', I w → Ext w w' → I w') {tl fr : List Nat} {fu : Nat} (hs : Region.noSelect ops = true) : ∀ (fuel : Nat) (t : OT) (st : Bool) (listed : Array Bool) (a : Act) (w : World), t.dep ≤ fuel → (st = true → I w) → hd_ md ops listed →
  chkO md ops tl fr t false listed = true → wpO P ops Q t false a w → fC_ P md ops tl I Q fuel st listed a w := by
 intro fuel
 induction fuel with
 | zero =>
  intro t st listed a w hd hW hcl hB h
  cases t with
  | nil => exact ⟨by simpa [chkO] using hB, h⟩
  | free i t => simp [OT.dep] at hd
  | alt i t r =>
   simp only [OT.dep] at hd
   have := Nat.le_max_left (t.dep + 1) r.dep
   omega
 | succ fuel ih =>
  intro t st listed a w hd hW hcl hB h
  cases t with
  | nil =>
   have h0 : Region.ready md ops listed = [] := by simpa [chkO] using hB
   exact ⟨fun _ => h, fun i hi => (by rw [h0] at hi; cases hi)⟩
  | free i t =>
   simp only [chkO, Bool.and_eq_true, Bool.not_eq_true'] at hB
   obtain ⟨⟨⟨⟨hr, hf⟩, hit⟩, hfr⟩, hB'⟩ := hB
   have hr' : i ∈ Region.ready md ops listed := by simpa using hr
   obtain ⟨_, o, ho, _⟩ := mem_ready.1 hr'
   simp only [OT.dep] at hd
   simp only [wpO, ho] at h
   have hcl' := ds_ hcl hr'
   split at h
   ·rename_i hw
    obtain ⟨v, hv, hn⟩ := h
    exact dc_ (fu := fu) hI true hit (fun e => nomatch e) ho (Region.noSelect_spec hs) fuel st listed a w hW (fun e => nomatch e) hcl (Region.free_spec ho hf) hr' (.inl ⟨hw, hv⟩)
     (ih t st _ _ w (by omega) hW hcl' hB' hn)
   ·rename_i hw
    exact dc_ (fu := fu) hI true hit (fun e => nomatch e) ho (Region.noSelect_spec hs) fuel st listed a w hW (fun e => nomatch e) hcl (Region.free_spec ho hf) hr' (.inr ⟨by simpa using hw, rfl⟩)
     (ih t st _ _ w (by omega) hW hcl' hB' h)
  | alt i t r =>
   have hB0 := hB
   simp only [chkO, Bool.false_or, Bool.and_eq_true, Bool.not_eq_true'] at hB
   obtain ⟨⟨⟨⟨hne, hall⟩, _⟩, _⟩, _⟩ := hB
   refine ⟨fun h0 => (by rw [h0] at hne; cases hne), fun j hj X d => ?_⟩
   have hmem : j ∈ (OT.alt i t r).ids := by
    have := List.all_eq_true.1 hall j hj
    simpa [OT.ids] using this
   obtain ⟨t', hd', htl, hB', hp⟩ := wpO_pick hmem hB0 h
   obtain ⟨_, o, ho, _⟩ := mem_ready.1 hj
   simp only [ho] at hp
   have h' := hp X d
   have hcl' := ds_ hcl hj
   have hst : (st && !(tl.contains j)) = false := by rw [htl]; simp
   rw [hst]
   have go : ∀ a' w', wpO P ops Q t' false a' w' → (false = true → I w') ∧ fC_ P md ops tl I Q fuel false (listed.setIfInBounds j true) a' w' := fun a' w' hk => ⟨(fun e => nomatch e), ih t' false _ a' w' (by omega) (fun e => nomatch e) hcl' hB' hk⟩
   unfold wpOp
   simp only [ho]
   unfold wpList at h'
   split at h'
   ·rename_i hw
    rw [if_pos hw]
    refine h'.imp (fun h' => ?_) (fun h' => ⟨h'.1, h'.2⟩)
    exact Oper.wp_out (fun a' w' hk => go a' w' hk) (fun ch a w h => h) (fun h => h) h'
   ·rename_i hw
    rw [if_neg hw]
    exact go _ _ h'
def e4_ (P : Program) (ops : Array Oper) (fr : List Nat) (I : World → Prop) (Q : Exit → Act → World → Prop) (t : OT) : List (Nat × Bool) → Act → World → Prop
 | [], a, w => wpO P ops Q t false a w
 | (_, true) :: _, _, _ => False
 | (i, false) :: rest, a, w => match ops[i]? with
  | none => False
  | some o => if Region.wanted o (yielded ops a.tmps) then o.quietI P a (if fr.contains i then fun _ => True else I) (fun a' => e4_ P ops fr I Q t rest a' w) else e4_ P ops fr I Q t rest (a.put o.dst undef) w
def lm_ (md : Region.Mode) (ops : Array Oper) (tl fr : List Nat) (t : OT) : List (Nat × Bool) → Array Bool → Bool
 | [], listed => chkO md ops tl fr t false listed
 | (_, true) :: _, _ => false
 | (i, false) :: rest, listed => (Region.ready md ops listed).contains i && Region.free md ops listed i && !(tl.contains i) && lm_ md ops tl fr t rest (listed.setIfInBounds i true)
def mixBO (md : Region.Mode) (ops : Array Oper) (tl fr : List Nat) (t : OT) (pre : List (Nat × Bool)) : Bool :=
 Region.noSelect ops && lm_ md ops tl fr t pre (Array.replicate ops.size false) && decide (pre.length + t.dep ≤ ops.size) && pre.all fun p => p.2 || (fr.contains p.1 || tl.all fun j => dq_ md ops ops.size j p.1)
theorem kC_ {I : World → Prop} (hI : ∀ w w', I w → Ext w w' → I w') {tl fr : List Nat} {fu m : Nat} {t : OT} (hm : t.dep ≤ m) (hs : Region.noSelect ops = true) : ∀ (pre : List (Nat × Bool)) (listed : Array Bool) (a : Act) (w : World), I w → hd_ md ops listed →
  (∀ i, (i, false) ∈ pre → fr.contains i = false → ∀ j ∈ tl, dq_ md ops fu j i = true) → lm_ md ops tl fr t pre listed = true → e4_ P ops fr I Q t pre a w → fC_ P md ops tl I Q (pre.length + m) true listed a w
 | [], listed, a, w, hW, hcl, _, hB, h => by
  rw [List.length_nil, Nat.zero_add]
  exact wpAnyI_O (fu := fu) hI hs m t true listed a w hm (fun _ => hW) hcl hB h
 | (i, true) :: rest, listed, a, w, _, _, _, hB, _ => nomatch hB
 | (i, false) :: pre, listed, a, w, hW, hcl, hT, hB, h => by
  simp only [lm_, Bool.and_eq_true, Bool.not_eq_true'] at hB
  obtain ⟨⟨⟨hr, hf⟩, hit⟩, hB'⟩ := hB
  rw [List.length_cons, show pre.length + 1 + m = (pre.length + m) + 1 by omega]
  have hr' : i ∈ Region.ready md ops listed := by simpa using hr
  obtain ⟨_, o, ho, _⟩ := mem_ready.1 hr'
  simp only [e4_, ho] at h
  have hT' : ∀ k, (k, false) ∈ pre → fr.contains k = false → ∀ j ∈ tl, dq_ md ops fu j k = true := fun k hk => hT k (List.mem_cons_of_mem _ hk)
  have hcl' := ds_ hcl hr'
  split at h
  ·rename_i hw
   obtain ⟨v, hv, hn⟩ := h
   exact dc_ hI (fr.contains i) hit (hT i (by simp)) ho (Region.noSelect_spec hs) _ true listed a w (fun _ => hW) (fun _ => rfl) hcl (Region.free_spec ho hf) hr' (.inl ⟨hw, hv⟩)
    (kC_ hI hm hs pre _ _ w hW hcl' hT' hB' hn)
  ·rename_i hw
   exact dc_ hI (fr.contains i) hit (hT i (by simp)) ho (Region.noSelect_spec hs) _ true listed a w (fun _ => hW) (fun _ => rfl) hcl (Region.free_spec ho hf) hr' (.inr ⟨by simpa using hw, rfl⟩)
    (kC_ hI hm hs pre _ _ w hW hcl' hT' hB' h)
theorem kU_ {I : World → Prop} (hI : ∀ w w', I w → Ext w w' → I w') {id : Nat} {t : OT} {l : List Oper} {a : Act} {w : World} (tl fr : List Nat) (pre : List (Nat × Bool)) (hm : P.follows .mixedOrders = true) (hB : mixBO .any l.toArray tl fr t pre = true)
  (hw : I w) (h : e4_ P l.toArray fr I Q t pre a w) : (Code.region id l.toArray true).wp P Q a w := by
 simp only [mixBO, Bool.and_eq_true, decide_eq_true_eq] at hB
 obtain ⟨⟨⟨hs, hf⟩, hlen⟩, htl⟩ := hB
 refine wp_region_any hm (i7_ (I := I) (tl := tl) _ true _ _ _ ?_)
 have := kC_ hI (md := .any) (tl := tl) (fr := fr) (fu := l.toArray.size) (m := l.toArray.size - pre.length) (by omega) hs pre (Array.replicate l.toArray.size false) a w hw (jx_ _) (fun i hi hfr j hj => by
  have := List.all_eq_true.1 htl _ hi
  simp only [Bool.false_or, hfr] at this
  exact List.all_eq_true.1 this j hj) hf h
 have h2 := hj_ _ _ _ _ _ #[] (w.drawn + 1) this
 rw [← World.drew_as_ext, show pre.length + (l.toArray.size - pre.length) = l.toArray.size by omega] at h2
 exact h2
theorem jG_ {fr : List Nat} {l : List Oper} {I : World → Prop} {t : OT} {i : Nat} {pre : List (Nat × Bool)} {a : Act} {w : World} (o : Oper) (ho : l[i]? = some o)
  (h : ∀ K : Act → Prop, (∀ a, e4_ P l.toArray fr I Q t pre a w → K a) → if Region.wanted o (yielded l.toArray a.tmps) then o.quietI P a (if fr.contains i then fun _ => True else I) K else K (a.put o.dst undef)) :
  e4_ P l.toArray fr I Q t ((i, false) :: pre) a w := by
 have ho' : l.toArray[i]? = some o := by simpa using ho
 simp only [e4_, ho']
 exact h _ (fun _ h => h)
end
end Go
namespace Go
namespace Rt
open Go.RowKit
structure Ba (E : TE) where
 L : Nat → Option (SV E)
 H : Nat → Option (Obj E)
 lo : Nat
structure St (E : TE) where
 env : List (Nat × Option (SV E))
 vis : Option (List Nat)
 heap : Chs E
 hvis : Option (List Nat)
 nx : Nat
def aA_ (t : Nat) : List Nat → Bool
 | [] => false
 | u :: l => match Nat.beq t u with
  | true => true
  | false => aA_ t l
def seen : Option (List Nat) → Nat → Bool
 | none, _ => true
 | some l, t => aA_ t l
def aG_ {α : Type} (t : Nat) : List (Nat × α) → Option α
 | [] => none
 | (u, v) :: l => match Nat.beq t u with
  | true => some v
  | false => aG_ t l
variable {E : TE}
def St.L (b : Ba E) (s : St E) (t : Nat) : Option (SV E) := match aG_ t s.env with
 | some v => v
 | none => match seen s.vis t with
  | true => b.L t
  | false => none
def St.H (b : Ba E) (s : St E) : Nat → Option (Obj E) := upH (fun i => match seen s.hvis i with
 | true => b.H i
 | false => none) s.heap
def St.after (N : Nat) (s : St E) (o : Oper) (v : Option (SV E)) (u : Chs E) : Option (St E) := match o.dst with
 | none => some { s with heap := u ++ s.heap, nx := nxU s.nx u }
 | some d => match Nat.blt d N with
  | true => some { s with env := (d, v) :: s.env, heap := u ++ s.heap, nx := nxU s.nx u }
  | false => none
def St.base (b : Ba E) (s : St E) : Ba E := ⟨s.L b, s.H b, b.lo⟩
def St.new (nx : Nat) : St E := ⟨[], none, [], none, nx⟩
abbrev Gd := Option (Nat × Bool × Nat)
def m1_ (o : Oper) : Gd → Bool
 | none => match o.guard with
  | none => true
  | some _ => false
 | some (j, w, _) => match o.guard with
  | none => false
  | some (j', w') => Nat.beq j j' && (match w, w' with | true, true => true | false, false => true | _, _ => false)
def dstOK (o : Oper) : Gd → Bool
 | none => true
 | some (_, _, d) => match o.dst with
  | none => true
  | some d' => !(Nat.beq d d')
def g6_ (d : Nat) : List Oper → Option (List Oper × Oper × List Oper)
 | [] => none
 | o :: r => match o.op with
  | .pick (.tmp d') _ _ => match Nat.beq d d' with
   | true => some ([], o, r)
   | false => match g6_ d r with
    | some (l, p, q) => some (o :: l, p, q)
    | none => none
  | _ => match g6_ d r with
   | some (l, p, q) => some (o :: l, p, q)
   | none => none
def groupOf (o : Oper) (idx : Nat) : List Oper → Option (Nat × Bool × List Oper × Oper × List Oper)
 | [] => none
 | o2 :: r => match o2.guard, o.dst with
  | some (j, w), some d => match Nat.beq j idx with
   | true => match g6_ d (o2 :: r) with
    | some (l, p, q) => some (d, w, l, p, q)
    | none => none
   | false => none
  | _, _ => none
def dS_ : List Oper → List Nat
 | [] => []
 | o :: l => match o.dst with
  | some d => d :: dS_ l
  | none => dS_ l
def keysIn (l : List Nat) : List (Nat × Option (SV E)) → Bool
 | [] => true
 | p :: r => aA_ p.1 l && keysIn l r
def ln_ (n : Nat) : Chs E → Bool
 | [] => true
 | p :: r => Nat.ble n p.1 && ln_ n r
def totalB (P : Program) (o : Oper) : Bool := match o.op with
 | .binOp op t _ y _ => match op with
  | .add => match P.underlying t with | some (.int _) => true | _ => false
  | .quo | .rem | .shl | .shr => Operand.isC y
  | _ => true
 | .move _ | .assign _ | .pick .. | .load .. | .fieldAddr .. | .field .. | .unOp .. | .convert .. | .extract .. | .nilCheck .. => true
 | .call { callee := .builtin .len, args := _, argTypes := _ } => true
 | .call { callee := .builtin .max, args := _, argTypes := _ } => true
 | .call { callee := .builtin .min, args := _, argTypes := _ } => true
 | _ => false
def totalL (P : Program) : List Oper → Bool
 | [] => true
 | o :: l => totalB P o && totalL P l
def skipB (idx d : Nat) (w : Bool) : List Oper → Nat → Bool
 | [], _ => true
 | o :: l, i => (match o.guard, o.dst with
  | some (j, w'), some d' => ((Nat.beq j idx && (match w, w' with | true, true => true | false, false => true | _, _ => false)) || (Nat.blt idx j && Nat.blt j i)) && !(Nat.beq d d')
  | _, _ => false) && skipB idx d w l (i + 1)
def notIn (g : Gd) (l : List Nat) : Bool := match g with
 | none => true
 | some (_, _, d) => !(aA_ d l)
def kV_ (b : Bool) : SV E := .v (.one (.dt .bool b))
def isBoolC (w : Bool) : Operand → Bool
 | .const (.bool b) => match w, b with | true, true => true | false, false => true | _, _ => false
 | _ => false
def ij_ (body : List Oper) : Nat := 1000 * (body.length + 1)
def hU_ (bs : Ba E) (nx lim : Nat) (ds : List Nat) (x : Operand) (s : St E) : Option Bool :=
 match keysIn ds s.env && ln_ nx s.heap && Nat.ble s.nx (nx + lim), s.vis, s.hvis, opS E (s.L bs) x with
 | true, none, none, some (.v (.one (.dt .bool e))) => some e
 | _, _, _, _ => none
def clear (ds : List Nat) : List (Nat × Option (SV E)) := ds.map fun d => (d, none)
def hl_ {α : Type} (w : Bool) (x y : α) : α := match w with
 | true => x
 | false => y
abbrev Ev (E : TE) := (Nat → Option (SV E)) → (Nat → Option (Obj E)) → Nat → Oper → (R : Type) → (Option (SV E) → Chs E → Option R) → Option R
def cV_ (P : Program) (E : TE) (ev : Ev E) (N : Nat) : Nat → (R : Type) → Gd → List Oper → Nat → Ba E → St E → (St E → Option R) → Option R
 | 0, _, _, _, _, _, _, _ => none
 | _ + 1, _, _, [], _, _, s, k => k s
 | n + 1, R, gd, o :: rest, idx, b, s, k =>
  match m1_ o gd && dstOK o gd with
  | false => none
  | true => ev (s.L b) (s.H b) s.nx o R fun v u => match s.after N o v u with
   | none => none
   | some s1 => match groupOf o idx rest with
    | none => cV_ P E ev N n R gd rest (idx + 1) b s1 k
    | some (d, w, body, pk, rest') => match s1.L b d, pk.op, pk.dst with
     | some (.v (.one (.dt .bool c))), .pick _ x y, some pd =>
      match m1_ pk gd && dstOK pk gd && notIn gd (dS_ body) && Nat.blt pd N && skipB idx d w body (idx + 1) && isBoolC (!w) (hl_ w y x) with
      | false => none
      | true =>
       match totalL P body with
       | true => match cV_ P E ev N n Bool (some (idx, w, d)) body (idx + 1) (s1.base b) (St.new s1.nx) (hU_ (s1.base b) s1.nx (ij_ body) (dS_ body) (hl_ w x y)) with
        | none => none
        | some e => cV_ P E ev N n R gd rest' (idx + 1 + body.length + 1) b { s1 with env := (pd, some (kV_ (hl_ w (c && e) (c || e)))) :: (clear (dS_ body) ++ s1.env), nx := s1.nx + ij_ body } k
       | false => Option.bind (hl_ w
        (bif c then cV_ P E ev N n Bool (some (idx, w, d)) body (idx + 1) (s1.base b) (St.new s1.nx) (hU_ (s1.base b) s1.nx (ij_ body) (dS_ body) x) else some false)
        (bif c then some true else cV_ P E ev N n Bool (some (idx, w, d)) body (idx + 1) (s1.base b) (St.new s1.nx) (hU_ (s1.base b) s1.nx (ij_ body) (dS_ body) y))) fun e =>
         cV_ P E ev N n R gd rest' (idx + 1 + body.length + 1) b { s1 with env := (pd, some (kV_ e)) :: (clear (dS_ body) ++ s1.env), nx := s1.nx + ij_ body } k
     | _, _, _ => none
noncomputable def evReg (P : Program) (E : TE) (eqs : List (Nat × Nat)) (tab : Tab E) (N : Nat) {R : Type} (l : List Oper) (b : Ba E) (s : St E) (k : St E → Option R) : Option R :=
 cV_ P E (fun L H nx o _ k => evOp P E eqs tab L H nx o k) N (l.length + 1) R none l 0 b s k
def tlOf : Nat → List Nat → List Nat
 | _, [] => []
 | i, f :: fl => match Nat.beq f 2 with
  | true => i :: tlOf (i + 1) fl
  | false => tlOf (i + 1) fl
def frOf : Nat → List Nat → List Nat
 | _, [] => []
 | i, f :: fl => match Nat.beq f 4 with
  | true => i :: frOf (i + 1) fl
  | false => frOf (i + 1) fl
def ax_ : List Nat → Nat
 | [] => 0
 | f :: fl => match Nat.beq f 0 with
  | true => ax_ fl + 1
  | false => 0
def ec_ : Nat → List Oper → List (Nat × Bool)
 | _, [] => []
 | i, _ :: l => (i, false) :: ec_ (i + 1) l
def dJ_ (hs : List Nat) : Nat → List Oper → List Nat → List (Nat × Oper × Nat)
 | i, o :: l, f :: fl => match aA_ i hs with
  | true => dJ_ hs (i + 1) l fl
  | false => (i, o, f) :: dJ_ hs (i + 1) l fl
 | _, _, _ => []
def hOrd : List Nat → List (Nat × Bool)
 | [] => []
 | i :: l => (i, false) :: hOrd l
def quietM (f : Nat) : Bool := Nat.beq f 0 || Nat.beq f 4
def di_ : List (Nat × Oper × Nat) → List (Nat × Bool)
 | [] => []
 | t :: l => (t.1, !(quietM t.2.2)) :: di_ l
noncomputable def evH (P : Program) (E : TE) (eqs : List (Nat × Nat)) (tab : Tab E) (N : Nat) {R : Type} (b : Ba E) (all : List Oper) (fr : List Nat) : List Nat → St E → (St E → Option R) → Option R
 | [], s, k => k s
 | i :: hs, s, k => match all[i]? with
  | none => none
  | some o => match o.guard with
   | some _ => none
   | none => match fr.contains i with
    | true => qFree P E eqs (s.L b) o fun v up => match up with
     | some _ => none
     | none => match s.after N o (some v) [] with
      | some s1 => evH P E eqs tab N b all fr hs s1 k
      | none => none
    | false => hi_ P E eqs tab (s.L b) (s.H b) s.nx o fun v u => match s.after N o v u with
     | some s1 => evH P E eqs tab N b all fr hs s1 k
     | none => none
noncomputable def evB (P : Program) (E : TE) (eqs : List (Nat × Nat)) (tab : Tab E) (N : Nat) (fm : Bool) {R : Type} (b : Ba E) : List (Nat × Oper × Nat) → St E → (St E → Option R) → Option R
 | [], s, k => k s
 | (_, o, f) :: l, s, k => match o.guard with
  | some _ => none
  | none => match quietM f with
   | true => qFree P E eqs (s.L b) o fun v up => match up with
    | some _ => none
    | none => match s.after N o (some v) [] with
     | some s1 => evB P E eqs tab N fm b l s1 k
     | none => none
   | false => match Nat.beq f 2 || (fm || hh_ tab (s.L b) o) with
    | false => none
    | true => evOp P E eqs tab (s.L b) (s.H b) s.nx o fun v u => match s.after N o v u with
     | some s1 => evB P E eqs tab N fm b l s1 k
     | none => none
def eO_ (S : List Nat) (H : Nat → Option (Obj E)) (i : Nat) : Option (Obj E) := match aA_ i S with
 | true => none
 | false => H i
def gx_ (S : List Nat) (H : Nat → Option (Obj E)) (i : Nat) : Option (Obj E) := match aA_ i S with
 | true => H i
 | false => none
noncomputable def evDraw (P : Program) (E : TE) (eqs : List (Nat × Nat)) (tab : Tab E) (N : Nat) {R : Type} (l : List Oper) (fl hs : List Nat) (fm : Bool) (S : List Nat) (b : Ba E) (s : St E) (k : St E → Option R) : Option R :=
 match P.follows .mixedOrders && mixBI .any l.toArray (tlOf 0 fl) (frOf 0 fl) (ec_ 0 (l.take (ax_ fl)) ++ (hOrd hs ++ di_ (dJ_ hs (ax_ fl) (l.drop (ax_ fl)) (fl.drop (ax_ fl))))) with
 | false => none
 | true => match fm with
  | false => cV_ P E (fun L H nx o _ k => hi_ P E eqs tab L H nx o k) N (l.length + 1) R none (l.take (ax_ fl)) 0 b s fun s1 => evH P E eqs tab N b l (frOf 0 fl) hs s1 fun s2 => evB P E eqs tab N false b (dJ_ hs (ax_ fl) (l.drop (ax_ fl)) (fl.drop (ax_ fl))) s2 k
  | true => cV_ P E (fun L H nx o _ k => hi_ P E eqs tab L H nx o k) N (l.length + 1) R none (l.take (ax_ fl)) 0 ⟨s.L b, eO_ S (s.H b), b.lo⟩ (St.new s.nx) fun s1 =>
   evH P E eqs tab N ⟨s.L b, eO_ S (s.H b), b.lo⟩ l (frOf 0 fl) hs s1 fun s2 => match s2.vis, s2.hvis, s2.heap with
    | none, none, [] => evB P E eqs tab N true ⟨s2.L ⟨s.L b, eO_ S (s.H b), b.lo⟩, gx_ S (s.H b), b.lo⟩ (dJ_ hs (ax_ fl) (l.drop (ax_ fl)) (fl.drop (ax_ fl))) (St.new s2.nx) fun s3 => match s3.vis, s3.hvis with
     | none, none => k { s with env := s3.env ++ (s2.env ++ s.env), heap := s3.heap ++ s.heap, nx := s3.nx }
     | _, _ => none
    | _, _, _ => none
def dstN (o : Oper) : Nat := match o.dst with
 | some d => d
 | none => 0
def floatB (P : Program) (N : Nat) (o : Oper) (ds : List Nat) : Bool := match o.op, o.guard, o.dst with
 | .alloc T, none, some d => !(aA_ d ds) && (Nat.blt d N && (match dX_ P T with | some _ => true | none => false))
 | _, _, _ => false
def dstsT : List (Nat × Oper × Nat) → List Nat
 | [] => []
 | t :: l => match t.2.1.dst with
  | some d => d :: dstsT l
  | none => dstsT l
noncomputable def evFloat (P : Program) (E : TE) (eqs : List (Nat × Nat)) (tab : Tab E) (N : Nat) {R : Type} (l : List Oper) (fl hs : List Nat) (p : Nat) (b : Ba E) (s : St E) (k : St E → Option R) : Option R :=
 match (dJ_ hs (ax_ fl) (l.drop (ax_ fl)) (fl.drop (ax_ fl)))[p]? with
 | none => none
 | some t => match P.follows .mixedOrders && (floatB P N t.2.1 (dstsT ((dJ_ hs (ax_ fl) (l.drop (ax_ fl)) (fl.drop (ax_ fl))).take p)) && Nat.beq t.2.2 1) &&
   mixBF .any l.toArray (tlOf 0 fl) (frOf 0 fl) t.1 (ec_ 0 (l.take (ax_ fl)) ++ (hOrd hs ++ di_ ((dJ_ hs (ax_ fl) (l.drop (ax_ fl)) (fl.drop (ax_ fl))).take p))) (di_ ((dJ_ hs (ax_ fl) (l.drop (ax_ fl)) (fl.drop (ax_ fl))).drop (p + 1))) with
  | false => none
  | true => cV_ P E (fun L H nx o _ k => hi_ P E eqs tab L H nx o k) N (l.length + 1) R none (l.take (ax_ fl)) 0 b s fun s1 => evH P E eqs tab N b l (frOf 0 fl) hs s1 fun s2 =>
    evB P E eqs tab N false b ((dJ_ hs (ax_ fl) (l.drop (ax_ fl)) (fl.drop (ax_ fl))).take p ++ t :: (dJ_ hs (ax_ fl) (l.drop (ax_ fl)) (fl.drop (ax_ fl))).drop (p + 1)) { s2 with env := (dstN t.2.1, none) :: s2.env } k
noncomputable def evOT (P : Program) (E : TE) (eqs : List (Nat × Nat)) (tab : Tab E) (N : Nat) {R : Type} (b : Ba E) (all : List Oper) (k : St E → Option R) : OT → St E → Option R
 | .nil, s => k s
 | .free i t, s => match all[i]? with
  | none => none
  | some o => match o.guard with
   | some _ => none
   | none => qFree P E eqs (s.L b) o fun v up => match up with
    | some _ => none
    | none => match s.after N o (some v) [] with
     | some s1 => evOT P E eqs tab N b all k t s1
     | none => none
 | .alt i t .nil, s => match all[i]? with
  | none => none
  | some o => match o.guard with
   | some _ => none
   | none => evOp P E eqs tab (s.L b) (s.H b) s.nx o fun v u => match s.after N o v u with
    | some s1 => evOT P E eqs tab N b all k t s1
    | none => none
 | .alt i t (.alt j t2 r2), s => both (match all[i]? with
  | none => none
  | some o => match o.guard with
   | some _ => none
   | none => evOp P E eqs tab (s.L b) (s.H b) s.nx o fun v u => match s.after N o v u with
    | some s1 => evOT P E eqs tab N b all k t s1
    | none => none) (evOT P E eqs tab N b all k (.alt j t2 r2) s)
 | .alt _ _ (.free _ _), _ => none
noncomputable def evOrd (P : Program) (E : TE) (eqs : List (Nat × Nat)) (tab : Tab E) (N : Nat) {R : Type} (l : List Oper) (p : Nat) (t : OT) (b : Ba E) (s : St E) (k : St E → Option R) : Option R :=
 match P.follows .mixedOrders && ((t.frO.all fun i => Nat.ble p i) && mixBO .any l.toArray t.tlO t.frO t (ec_ 0 (l.take p))) with
 | false => none
 | true => cV_ P E (fun L H nx o _ k => hi_ P E eqs tab L H nx o k) N (l.length + 1) R none (l.take p) 0 b s fun s1 => evOT P E eqs tab N b l k t s1
def chO : Nat → Nat → OT
 | _, 0 => .nil
 | i, n + 1 => .alt i (chO (i + 1) n) .nil
noncomputable def evChain (P : Program) (E : TE) (eqs : List (Nat × Nat)) (tab : Tab E) (N : Nat) {R : Type} (l : List Oper) (p : Nat) (b : Ba E) (s : St E) (k : St E → Option R) : Option R :=
 match P.follows .mixedOrders && (Nat.ble p l.length && mixBO .any l.toArray (chO p (l.length - p)).tlO [] (chO p (l.length - p)) (ec_ 0 (l.take p))) with
 | false => none
 | true => cV_ P E (fun L H nx o _ k => hi_ P E eqs tab L H nx o k) N (l.length + 1) R none (l.take p) 0 b s fun s1 => cV_ P E (fun L H nx o _ k => evOp P E eqs tab L H nx o k) N (l.length + 1) R none (l.drop p) p b s1 k
end Rt
end Go
namespace Go
namespace Rt
open Go.RowKit
variable {E : TE}
inductive CP where
 | v (t : Ty)
 | own (j : Nat)
 | ptr (j : Nat)
 | mp (j : Nat)
inductive VP where
 | d (t : Ty)
 | one (c : CP)
 | agg (l : List CP)
inductive OP where
 | box (T : TypeId) (t : Ty)
 | cells (T : TypeId) (l : List CP)
 | row (e : TypeId) (t : Ty) (foc : List (Nat × Nat))
 | map (T : TypeId) (k v : Ty)
structure JP where
 slots : List (Nat × VP)
 objs : List (Nat × Bool × OP)
 keep : List Nat
 hkeep : List Nat
 gkeep : List Nat
 nx : Nat
def cpT : List CP → List Ty
 | [] => []
 | .v t :: l => t :: cpT l
 | _ :: l => cpT l
def VP.T : VP → List Ty
 | .d t => [t]
 | .one c => cpT [c]
 | .agg l => cpT l
def OP.T : OP → List Ty
 | .box _ t => [t]
 | .cells _ l => cpT l
 | .row _ t _ => [.sl t]
 | .map _ k v => [.sl k, .sl v]
def ev_ : List (Nat × VP) → List Ty
 | [] => []
 | p :: l => p.2.T ++ ev_ l
def gy_ : List (Nat × Bool × OP) → List Ty
 | [] => []
 | p :: l => p.2.2.T ++ gy_ l
def JP.T (j : JP) : List Ty := ev_ j.slots ++ gy_ j.objs
def hap {S : Nat → Type} : {ts us : List Ty} → HL S ts → HL S us → HL S (ts ++ us)
 | [], _, _, h => h
 | _ :: _, _, a, h => (a.1, hap a.2 h)
def hfst {S : Nat → Type} : (ts us : List Ty) → HL S (ts ++ us) → HL S ts
 | [], _, _ => ()
 | _ :: ts, us, h => (h.1, hfst ts us h.2)
def hsnd {S : Nat → Type} : (ts us : List Ty) → HL S (ts ++ us) → HL S us
 | [], _, h => h
 | _ :: ts, us, h => hsnd ts us h.2
def rowOf (j : Nat) : List (Nat × Bool × OP) → Option (TypeId × Ty)
 | [] => none
 | (i, _, .row e t _) :: l => match Nat.beq i j with
  | true => some (e, t)
  | false => rowOf j l
 | _ :: l => rowOf j l
def ik_ {α : Type} : List (Option (TypeId × Ty)) → List (SC E) → Nat → (List (SC E) → Chs E → Nat → α) → α
 | some (e, ty) :: ps, .nils :: cs, n, k => ik_ ps cs (n + 1) fun l u m => k (.own n :: l) (u ++ [(n, some (.row e ty [] []))]) m
 | _ :: ps, c :: cs, n, k => ik_ ps cs n fun l u m => k (c :: l) u m
 | _, cs, n, k => k cs [] n
def wantC (objs : List (Nat × Bool × OP)) : List CP → List (Option (TypeId × Ty))
 | .own j :: ps => rowOf j objs :: wantC objs ps
 | _ :: ps => none :: wantC objs ps
 | [] => []
def wantM : Mk → List Ty → List (Option (TypeId × Ty))
 | some e :: ms, .sl t :: ts => some (e, t) :: wantM ms ts
 | _ :: ms, _ :: ts => none :: wantM ms ts
 | _, _ => []
def prepV (E : TE) {α : Type} (t : Ty) (m : Mk) (x : V1 E) (n : Nat) (k : V1 E → Chs E → Nat → α) : α :=
 match x with
 | .agg l => ik_ (wantM m (E.flat t)) l n fun l u n' => k (.agg l) u n'
 | .one c => ik_ (wantM m (E.flat t)) [c] n fun l u n' => match l with
  | [c'] => k (.one c') u n'
  | _ => k (.one c) [] n
def prepRs (E : TE) {α : Type} : Rs → List (V1 E) → Nat → (List (V1 E) → Chs E → Nat → α) → α
 | (t, m) :: rs, x :: xs, n, k => prepV E t m x n fun x' u n1 => prepRs E rs xs n1 fun xs' u' n2 => k (x' :: xs') (u' ++ u) n2
 | _, xs, n, k => k xs [] n
def prepS (b : Ba E) (s : St E) (objs : List (Nat × Bool × OP)) : Nat × VP → St E
 | (t, .one (.own j)) => match s.L b t, rowOf j objs with
  | some (.v (.one .nils)), some (e, ty) => { s with env := (t, some (.v (.one (.own s.nx)))) :: s.env, heap := (s.nx, some (.row e ty [] [])) :: s.heap, nx := s.nx + 1 }
  | _, _ => s
 | (t, .d _) => match s.L b t with
  | some (.v x) => { s with heap := dQ_ (s.H b) x.cs ++ s.heap }
  | _ => s
 | (t, .agg ps) => match s.L b t with
  | some (.v (.agg cs)) => ik_ (wantC objs ps) cs s.nx fun l u m => { s with env := (t, some (.v (.agg l))) :: s.env, heap := u ++ s.heap, nx := m }
  | _ => s
 | _ => s
def il_ (b : Ba E) (objs : List (Nat × Bool × OP)) : List (Nat × VP) → St E → St E
 | [], s => s
 | p :: l, s => il_ b objs l (prepS b s objs p)
def kW_ (b : Ba E) (objs : List (Nat × Bool × OP)) (s : St E) : Nat × Bool × OP → St E
 | (j, true, .cells _ ps) => match s.H b j with
  | some (.box T cs) => ik_ (wantC objs ps) cs s.nx fun l u m => { s with heap := (j, some (.box T l)) :: (u ++ s.heap), nx := m }
  | _ => s
 | _ => s
def im_ (b : Ba E) (objs : List (Nat × Bool × OP)) : List (Nat × Bool × OP) → St E → St E
 | [], s => s
 | p :: l, s => im_ b objs l (kW_ b objs s p)
def selV : List CP → List (SC E) → List (SC E)
 | .v _ :: ps, c :: cs => c :: selV ps cs
 | _ :: ps, _ :: cs => selV ps cs
 | _, _ => []
def frzC (b : Ba E) (s : St E) (cs : List (SC E)) : St E := { s with heap := dQ_ (s.H b) cs ++ s.heap }
def frzS1 (b : Ba E) (s : St E) : Nat × VP → St E
 | (t, .agg ps) => match s.L b t with
  | some (.v (.agg cs)) => frzC b s (selV ps cs)
  | _ => s
 | _ => s
def frzS (b : Ba E) : List (Nat × VP) → St E → St E
 | [], s => s
 | p :: l, s => frzS b l (frzS1 b s p)
def frzO1 (b : Ba E) (s : St E) : Nat × Bool × OP → St E
 | (j, true, .cells _ ps) => match s.H b j with
  | some (.box _ cs) => frzC b s (selV ps cs)
  | _ => s
 | (j, true, .box _ _) => match s.H b j with
  | some (.box _ cs) => frzC b s cs
  | _ => s
 | _ => s
def frzOs (b : Ba E) : List (Nat × Bool × OP) → St E → St E
 | [], s => s
 | p :: l, s => frzOs b l (frzO1 b s p)
abbrev Bd := List (Nat × Nat)
def addB (j id : Nat) (bs : Bd) : Option Bd := match aG_ j bs with
 | some id' => match Nat.beq id id' with
  | true => some bs
  | false => none
 | none => some ((j, id) :: bs)
def bB_ : List CP → List (SC E) → Bd → Option Bd
 | [], [], bs => some bs
 | .v _ :: ps, _ :: cs, bs => bB_ ps cs bs
 | .own j :: ps, .own id :: cs, bs => match addB j id bs with
  | some bs => bB_ ps cs bs
  | none => none
 | .ptr j :: ps, .ptr id 0 :: cs, bs => match addB j id bs with
  | some bs => bB_ ps cs bs
  | none => none
 | .mp j :: ps, .mp id :: cs, bs => match addB j id bs with
  | some bs => bB_ ps cs bs
  | none => none
 | _, _, _ => none
def fw_ (L : Nat → Option (SV E)) : List (Nat × VP) → Bd → Option Bd
 | [], bs => some bs
 | (_, .d _) :: l, bs => fw_ L l bs
 | (t, .one p) :: l, bs => match L t with
  | some (.v (.one c)) => match bB_ [p] [c] bs with
   | some bs => fw_ L l bs
   | none => none
  | _ => none
 | (t, .agg ps) :: l, bs => match L t with
  | some (.v (.agg cs)) => match bB_ ps cs bs with
   | some bs => fw_ L l bs
   | none => none
  | _ => none
def selfB (self : Bool) (j : Nat) (bs : Bd) : Option Bd := match self with
 | true => addB j j bs
 | false => some bs
def hm_ (H : Nat → Option (Obj E)) : List (Nat × Bool × OP) → Bd → Option Bd
 | [], bs => some bs
 | (j, self, p) :: l, bs => match selfB self j bs with
  | some bs => match p with
   | .cells _ ps => match aG_ j bs with
    | some id => match H id with
     | some (.box _ cs) => match bB_ ps cs bs with
      | some bs => hm_ H l bs
      | none => none
     | _ => none
    | none => none
   | _ => hm_ H l bs
  | none => none
def d0_ {α : Type} : Bool → Option α → Option α
 | true, x => x
 | false, _ => none
theorem c8_ {α : Type} {c : Bool} {x : Option α} {y : α} (h : d0_ c x = some y) : c = true ∧ x = some y := by
 cases c with
 | true => exact ⟨rfl, h⟩
 | false => cases h
def castO {S : TE} (t : Ty) {t' : Ty} (xs : List (Den S.S t')) : Option (List (Den S.S t)) := if h : t' = t then some (fu_ h xs) else none
theorem lp_ {S : TE} {t t' : Ty} {xs : List (Den S.S t')} {ys : List (Den S.S t)} (h : castO t xs = some ys) : ∃ e : t' = t, ys = fu_ e xs := by
 unfold castO at h
 split at h
 ·rename_i e; exact ⟨e, (Option.some.inj h).symm⟩
 ·cases h
def unitO {α : Type} : Option α → Option (α × Unit)
 | some x => some (x, ())
 | none => none
theorem i8_ {α : Type} {x : Option α} {q : α × Unit} (h : unitO x = some q) : x = some q.1 := by
 cases x with
 | none => cases h
 | some a => obtain rfl := Option.some.inj h; rfl
def hapO {S : Nat → Type} {ts us : List Ty} : Option (HL S ts) → Option (HL S us) → Option (HL S (ts ++ us))
 | some x, some y => some (hap x y)
 | _, _ => none
theorem ml_ {S : Nat → Type} {ts us : List Ty} {x : Option (HL S ts)} {y : Option (HL S us)} {q : HL S (ts ++ us)} (h : hapO x y = some q) : ∃ a b, x = some a ∧ y = some b ∧ q = hap a b := by
 cases x with
 | none => cases h
 | some a =>
  cases y with
  | none => cases h
  | some b => exact ⟨a, b, rfl, rfl, (Option.some.inj h).symm⟩
def pairO {α β : Type} : Option α → Option β → Option (α × β)
 | some x, some y => some (x, y)
 | _, _ => none
theorem oN_ {α β : Type} {x : Option α} {y : Option β} {q : α × β} (h : pairO x y = some q) : x = some q.1 ∧ y = some q.2 := by
 cases x with
 | none => cases h
 | some a =>
  cases y with
  | none => cases h
  | some b => obtain rfl := Option.some.inj h; exact ⟨rfl, rfl⟩
def d1_ (H : Nat → Option (Obj E)) : (ps : List CP) → List (SC E) → Option (HL E.S (cpT ps))
 | [], [] => some ()
 | .v t :: ps, c :: cs => pairO (c.data H t) (d1_ H ps cs)
 | .own _ :: ps, _ :: cs => d1_ H ps cs
 | .ptr _ :: ps, _ :: cs => d1_ H ps cs
 | .mp _ :: ps, _ :: cs => d1_ H ps cs
 | _, _ => none
def leafV (H : Nat → Option (Obj E)) : (p : VP) → V1 E → Option (HL E.S p.T)
 | .d t, x => unitO (ii_ E H t x)
 | .one p, .one c => d1_ H [p] [c]
 | .agg ps, .agg cs => d1_ H ps cs
 | _, _ => none
def leafS (L : Nat → Option (SV E)) (H : Nat → Option (Obj E)) : (l : List (Nat × VP)) → Option (HL E.S (ev_ l))
 | [] => some ()
 | (t, p) :: l => match L t with
  | some (.v x) => hapO (leafV H p x) (leafS L H l)
  | _ => none
def leafO (H : Nat → Option (Obj E)) : (p : OP) → Obj E → Option (HL E.S p.T)
 | .box T t, .box T' cs => d0_ (Nat.beq T T') (unitO ((b4_ E H (E.flat t) cs).map (E.ufl t)))
 | .cells T ps, .box T' cs => d0_ (Nat.beq T T') (d1_ H ps cs)
 | .row e t _, .row e' _ xs _ => d0_ (Nat.beq e e') (unitO (castO t xs))
 | .map T k v, .map T' _ _ ks vs _ => d0_ (Nat.beq T T') (pairO (castO k ks) (unitO (castO v vs)))
 | _, _ => none
def jH_ (H : Nat → Option (Obj E)) (bs : Bd) : (l : List (Nat × Bool × OP)) → Option (HL E.S (gy_ l))
 | [] => some ()
 | (j, _, p) :: l => match aG_ j bs with
  | some id => match H id with
   | some o => hapO (leafO H p o) (jH_ H bs l)
   | none => none
  | none => none
def focOK (H : Nat → Option (Obj E)) (bs : Bd) (keep gkeep : List Nat) : List (Nat × Bool × OP) → Bool
 | [] => true
 | (j, _, .row _ _ fs) :: l => (match aG_ j bs with
  | some id => match H id with
   | some (.row _ _ _ foc) => fs.all fun f => (foc.any fun p => Nat.beq p.1 f.1) && (aA_ f.2 keep && aA_ f.1 gkeep)
   | _ => false
  | none => false) && focOK H bs keep gkeep l
 | _ :: l => focOK H bs keep gkeep l
def noKey {α : Type} (i : Nat) (l : List (Nat × α)) : Bool := match aG_ i l with
 | none => true
 | some _ => false
def subset (l m : List Nat) : Bool := l.all fun t => aA_ t m
def selfs : List (Nat × Bool × OP) → List Nat
 | [] => []
 | (j, true, _) :: l => j :: selfs l
 | _ :: l => selfs l
def disj (l m : List Nat) : Bool := l.all fun t => !(aA_ t m)
def JP.mtB (j : JP) (lo : Nat) (s : St E) (bs : Bd) : Bool :=
 (Nat.ble lo j.nx && bs.all fun p => Nat.ble lo p.1 || Nat.beq p.1 p.2) && (j.keep.all fun t => noKey t s.env && seen s.vis t) && ((j.hkeep.all fun t => noKey t s.heap && seen s.hvis t) && (iz_ (bs.map (·.2)) && (disj (bs.map (·.2)) j.hkeep && (disj (bs.map (·.1)) (j.hkeep ++ j.gkeep) && ((bs.all fun p => Nat.blt p.1 j.nx) && (j.hkeep ++ j.gkeep).all fun i => Nat.blt i j.nx)))))
def JP.mt (j : JP) (b : Ba E) (s0 : St E) : Option (HL E.S j.T) :=
 let s := im_ b j.objs j.objs (il_ b j.objs j.slots (frzOs b j.objs (frzS b j.slots s0)))
 match fw_ (s.L b) j.slots [] with
 | some bs => match hm_ (s.H b) j.objs bs with
  | some bs => d0_ (j.mtB b.lo s bs && focOK (s.H b) bs j.keep j.gkeep j.objs) (hapO (leafS (s.L b) (s.H b) j.slots) (jH_ (s.H b) bs j.objs))
  | none => none
 | none => none
def newC : (ps : List CP) → HL E.S (cpT ps) → List (SC E)
 | [], _ => []
 | .v t :: ps, h => .dt t h.1 :: newC ps h.2
 | .own j :: ps, h => .own j :: newC ps h
 | .ptr j :: ps, h => .ptr j 0 :: newC ps h
 | .mp j :: ps, h => .mp j :: newC ps h
def ones : List (SC E) → Option (V1 E)
 | [c] => some (.one c)
 | _ => none
def bM_ : (p : VP) → HL E.S p.T → Option (V1 E)
 | .d t, h => asV E t (E.cells t h.1)
 | .one p, h => ones (newC [p] h)
 | .agg ps, h => some (.agg (newC ps h))
def slotO (t : Nat) : Option (V1 E) → Option (List (Nat × Option (SV E))) → Option (List (Nat × Option (SV E)))
 | some x, some r => some ((t, some (.v x)) :: r)
 | _, _ => none
def newS : (l : List (Nat × VP)) → HL E.S (ev_ l) → Option (List (Nat × Option (SV E)))
 | [], _ => some []
 | (t, p) :: l, h => slotO t (bM_ p (hfst p.T (ev_ l) h)) (newS l (hsnd p.T (ev_ l) h))
def focK (L : Nat → Option (SV E)) {R : Type} {t : Ty} (xs : List (Den E.S t)) : List (Nat × Nat) → (List (Nat × Int × Den E.S t) → Option R) → Option R
 | [], k => k []
 | (q, sl) :: fs, k => match L sl with
  | some (.v (.one (.elo _ q' i _))) => match Nat.beq q q' with
   | true => Option.bind (as_ xs i) fun y => focK L xs fs fun l => k ((q, i, y) :: l)
   | false => none
  | _ => none
def newO (L : Nat → Option (SV E)) {R : Type} : (p : OP) → HL E.S p.T → (Obj E → Option R) → Option R
 | .box T t, h, k => k (.box T (E.cells t h.1))
 | .cells T ps, h, k => k (.box T (newC ps h))
 | .row e t fs, h, k => focK L h.1 fs fun l => k (.row e t h.1 l)
 | .map T kt v, h, k => k (.map T kt v h.1 h.2.1 [])
def newOs (L : Nat → Option (SV E)) {R : Type} : (l : List (Nat × Bool × OP)) → HL E.S (gy_ l) → (Chs E → Option R) → Option R
 | [], _, k => k []
 | (j, _, p) :: l, h, k => newO L p (hfst p.T (gy_ l) h) fun o => newOs L l (hsnd p.T (gy_ l) h) fun u => k ((j, some o) :: u)
def SC.okIds (A : List Nat) : SC E → Bool
 | .own id => aA_ id A
 | .pre id _ => aA_ id A
 | .suf id _ => aA_ id A
 | .ptr id _ => aA_ id A
 | .elo id q _ _ => aA_ id A && aA_ q A
 | .clo _ ids => subset ids A
 | .mp id => aA_ id A
 | .mst q => aA_ q A
 | _ => true
def V1.okIds (A : List Nat) : V1 E → Bool
 | .one c => c.okIds A
 | .agg l => l.all fun c => c.okIds A
def SV.okIds (A : List Nat) : SV E → Bool
 | .v x => x.okIds A
 | .tup l => l.all fun x => x.okIds A
def Obj.okIds (A : List Nat) : Obj E → Bool
 | .box _ cs => cs.all fun c => c.okIds A
 | .row _ _ _ foc => foc.all fun p => aA_ p.1 A
 | .map _ _ _ _ _ foc => foc.all fun p => aA_ p.1 A
 | _ => true
def filtK {α : Type} (keep : List Nat) (l : List (Nat × α)) : List (Nat × α) := l.filter fun p => aA_ p.1 keep
def JP.goB (j : JP) (b : Ba E) (s : St E) : Bool :=
 (j.keep.all fun t => match s.L b t with | some v => v.okIds (j.hkeep ++ (j.gkeep ++ selfs j.objs)) | none => true) && (j.hkeep.all fun i => match s.H b i with | some o => o.okIds (j.hkeep ++ (j.gkeep ++ selfs j.objs)) | none => true)
def JP.goS (j : JP) (s : St E) (env : List (Nat × Option (SV E))) (u : Chs E) : St E :=
 { env := env ++ filtK j.keep s.env, vis := some (j.keep.filter (seen s.vis)), heap := u ++ filtK j.hkeep s.heap, hvis := some (j.hkeep.filter (seen s.hvis)), nx := j.nx }
def JP.go (j : JP) (b : Ba E) (s : St E) {R : Type} (h : HL E.S j.T) (k : St E → Option R) : Option R :=
 match newS j.slots (hfst (ev_ j.slots) (gy_ j.objs) h) with
 | none => none
 | some env =>
  d0_ (j.goB b s) (newOs (s.L b) j.objs (hsnd (ev_ j.slots) (gy_ j.objs) h) fun u => k (j.goS s env u))
inductive Pl where
 | p
 | s (x y : Pl)
 | j (m : JP) (ret : Bool) (x y : Pl)
 | lp (hd ex : JP) (ret : Bool) (x : Pl)
 | dr (fl hs : List Nat) (fm : Bool) (ids : List Nat)
 | df (fl hs : List Nat) (p : Nat)
 | ot (p : Nat) (t : OT)
 | sq (p : Nat)
def Pl.l : Pl → Pl
 | .s x _ => x
 | _ => .p
def Pl.r : Pl → Pl
 | .s _ y => y
 | _ => .p
noncomputable def evCode (P : Program) (E : TE) (eqs : List (Nat × Nat)) (tab : Tab E) (N : Nat) (RT : Type) (rv : Ba E → St E → Option RT) : Code → Pl → (R : Type) → Ba E → St E → (Option Nat → St E → Option R) → (RT → Option R) → Option R
 | .skip, _, _, _, s, k, _ => k none s
 | .region _ ops false, _, _, b, s, k, _ => evReg P E eqs tab N ops.toList b s (k none)
 | .region _ ops true, .dr fl hs fm ids, _, b, s, k, _ => evDraw P E eqs tab N ops.toList fl hs fm ids b s (k none)
 | .region _ ops true, .df fl hs p, _, b, s, k, _ => evFloat P E eqs tab N ops.toList fl hs p b s (k none)
 | .region _ ops true, .ot p t, _, b, s, k, _ => evOrd P E eqs tab N ops.toList p t b s (k none)
 | .region _ ops true, .sq p, _, b, s, k, _ => evChain P E eqs tab N ops.toList p b s (k none)
 | .seq x y, .j m ret px py, R, b, s, k, kr => match ret with
  | false => Option.bind (evCode P E eqs tab N RT rv x px (Tp E.S m.T) (s.base b) (St.new s.nx) (fun ex s' => match ex with
    | none => (match m.mt (s.base b) s' with | some h => some (dR_ m.T h) | none => none)
    | some _ => none) (fun _ => none)) fun o => m.go b s (cS_ m.T o) fun s' => evCode P E eqs tab N RT rv y py R b s' k kr
  | true => Option.bind (evCode P E eqs tab N RT rv x px (Out (Tp E.S m.T) RT) (s.base b) (St.new s.nx) (fun ex s' => match ex with
    | none => (match m.mt (s.base b) s' with | some h => some (.fall (dR_ m.T h)) | none => none)
    | some _ => none) (fun r => some (.ret r))) fun o => match o with
     | .ret r => kr r
     | .fall o => m.go b s (cS_ m.T o) fun s' => evCode P E eqs tab N RT rv y py R b s' k kr
 | .seq x y, pl, R, b, s, k, kr => evCode P E eqs tab N RT rv x pl.l R b s (fun ex s' => match ex with
   | none => evCode P E eqs tab N RT rv y pl.r R b s' k kr
   | some i => k (some i) s') kr
 | .cond c x y, pl, R, b, s, k, kr => match opS E (s.L b) c with
  | some (.v (.one (.dt .bool c))) => bif c then evCode P E eqs tab N RT rv x pl.l R b s k kr else evCode P E eqs tab N RT rv y pl.r R b s k kr
  | _ => none
 | .block id (.loop body), .lp hd ex ret pb, _, b, s, k, kr => match hd.mt (s.base b) (St.new s.nx) with
  | none => none
  | some h0 => match ret with
   | false => Option.bind (am_ (fun tp => hd.go (s.base b) (St.new s.nx) (cS_ hd.T tp) fun s1 => evCode P E eqs tab N RT rv body pb (Step (Tp E.S hd.T) (Tp E.S ex.T)) (s.base b) s1 (fun e s' => match e with
      | none => (match hd.mt (s.base b) s' with | some h => some (.next (dR_ hd.T h)) | none => none)
      | some i => match Nat.beq i id with
       | true => (match ex.mt (s.base b) s' with | some h => some (.done (dR_ ex.T h)) | none => none)
       | false => none) (fun _ => none)) BIG (dR_ hd.T h0)) fun o => ex.go b s (cS_ ex.T o) fun s' => k none s'
   | true => Option.bind (am_ (fun tp => hd.go (s.base b) (St.new s.nx) (cS_ hd.T tp) fun s1 => evCode P E eqs tab N RT rv body pb (Step (Tp E.S hd.T) (Out (Tp E.S ex.T) RT)) (s.base b) s1 (fun e s' => match e with
      | none => (match hd.mt (s.base b) s' with | some h => some (.next (dR_ hd.T h)) | none => none)
      | some i => match Nat.beq i id with
       | true => (match ex.mt (s.base b) s' with | some h => some (.done (.fall (dR_ ex.T h))) | none => none)
       | false => none) (fun r => some (.done (.ret r)))) BIG (dR_ hd.T h0)) fun o => match o with
     | .ret r => kr r
     | .fall o => ex.go b s (cS_ ex.T o) fun s' => k none s'
 | .block id x, pl, R, b, s, k, kr => evCode P E eqs tab N RT rv x pl R b s (fun ex s' => match ex with
   | none => k none s'
   | some i => match Nat.beq i id with
    | true => k none s'
    | false => k (some i) s') kr
 | .exit i, _, _, _, s, k, _ => k (some i) s
 | .scope x, pl, R, b, s, k, kr => evCode P E eqs tab N RT rv x pl R b s k kr
 | .ret, _, _, b, s, _, kr => match rv b s with
  | some r => kr r
  | none => none
 | _, _, _, _, _, _, _ => none
def resSV (E : TE) (P : Program) (b : Ba E) (s : St E) : ResultVar → Option (V1 E)
 | .tmp t => match s.L b t with
  | some (.v x) => some x
  | _ => none
 | .cell t T => match s.L b t with
  | some (.v (.one c)) => match behind E (s.H b) c with
   | some (l, off) => loadC P T l off
   | none => none
  | _ => none
def resXs (E : TE) (P : Program) (b : Ba E) (s : St E) : List ResultVar → Option (List (V1 E))
 | [] => some []
 | v :: vs => match resSV E P b s v, resXs E P b s vs with
  | some x, some l => some (x :: l)
  | _, _ => none
def frzR (E : TE) (H : Nat → Option (Obj E)) : Rs → List (V1 E) → Chs E
 | (_, m) :: rs, x :: xs => dQ_ (upH H (frzR E H rs xs)) (unM m x.cs) ++ frzR E H rs xs
 | _, _ => []
def frzV (E : TE) (H : Nat → Option (Obj E)) : List Pm → Nat → Chs E
 | [], _ => []
 | .b _ _ :: ps, n => (match upH H (frzV E H ps (n + 1)) n with
  | some (.box _ cs) => dQ_ (upH H (frzV E H ps (n + 1))) cs
  | _ => []) ++ frzV E H ps (n + 1)
 | .bm _ t m :: ps, n => (match upH H (frzV E H ps (n + 1 + aF_ m (E.flat t))) n with
  | some (.box _ cs) => dQ_ (upH H (frzV E H ps (n + 1 + aF_ m (E.flat t)))) (unM m cs)
  | _ => []) ++ frzV E H ps (n + 1 + aF_ m (E.flat t))
 | .l t m :: ps, n => frzV E H ps (n + aF_ m (E.flat t))
 | .g t m :: ps, n => frzV E H ps (n + aF_ m (E.flat t))
 | .mp _ _ _ :: ps, n => frzV E H ps (n + 1)
 | .d _ :: ps, n => frzV E H ps n
 | .p _ :: ps, n => frzV E H ps n
 | .f1 _ _ :: ps, n => frzV E H ps n
 | .f2 _ _ _ :: ps, n => frzV E H ps n
def frzA (E : TE) (H : Nat → Option (Obj E)) (ps : List Pm) (rs : Rs) (xs : List (V1 E)) : Chs E := frzV E (upH H (frzR E H rs xs)) ps 0 ++ frzR E H rs xs
def takeR (E : TE) (H : Nat → Option (Obj E)) : (rs : Rs) → List (V1 E) → Option (HL E.S rs.ts × List Nat)
 | [], [] => some ((), [])
 | (t, m) :: rs, x :: xs => match V1.fits t x, b2_ E H m (E.flat t) x.cs, takeR E H rs xs with
  | true, some d, some q => some ((E.ufl t d.1, q.1), d.2 ++ q.2)
  | _, _, _ => none
 | _, _ => none
def i9_ (E : TE) (H : Nat → Option (Obj E)) : Mk → (ts : List Ty) → HL E.S ts → Nat → Option (HL E.S ts)
 | some e :: ms, .sl t :: ts, h, n => match H n with
  | some (.row e' t' xs _) => if ht : t' = t then match Nat.beq e e', i9_ E H ms ts h.2 (n + 1) with
    | true, some q => some (fu_ ht xs, q)
    | _, _ => none
   else none
  | _ => none
 | none :: ms, _ :: ts, h, n => match i9_ E H ms ts h.2 n with
  | some q => some (h.1, q)
  | none => none
 | [], _, h, _ => some h
 | _, _, _, _ => none
def dj_ (E : TE) (H : Nat → Option (Obj E)) : (ps : List Pm) → PA E ps → Nat → Option (HL E.S (bm_ ps) × List Nat)
 | [], _, _ => some ((), [])
 | .l t m :: ps, a, n => match i9_ E H m (E.flat t) (E.fl t a.1) n, dj_ E H ps a.2 (n + aF_ m (E.flat t)) with
  | some h, some q => some ((E.ufl t h, q.1), q.2)
  | _, _ => none
 | .g t m :: ps, a, n => dj_ E H ps a.2 (n + aF_ m (E.flat t))
 | .mp T k v :: ps, a, n => match H n, dj_ E H ps a.2 (n + 1) with
  | some (.map T' k' v' ks vs _), some q => if ht : k' = k ∧ v' = v then match Nat.beq T T' with
    | true => some ((fu_ ht.1 ks, fu_ ht.2 vs, q.1), q.2)
    | false => none
   else none
  | _, _ => none
 | .b T t :: ps, a, n => match H n, dj_ E H ps a.2 (n + 1) with
  | some (.box T' cs), some q => match Nat.beq T T', b4_ E H (E.flat t) cs with
   | true, some h => some ((E.ufl t h, q.1), q.2)
   | _, _ => none
  | _, _ => none
 | .bm T t m :: ps, a, n => match H n, dj_ E H ps a.2 (n + 1 + aF_ m (E.flat t)) with
  | some (.box T' cs), some q => match Nat.beq T T', b2_ E H m (E.flat t) cs with
   | true, some d => some ((E.ufl t d.1, q.1), d.2 ++ q.2)
   | _, _ => none
  | _, _ => none
 | .d _ :: ps, a, n => dj_ E H ps a.2 n
 | .p _ :: ps, a, n => dj_ E H ps a.2 n
 | .f1 _ _ :: ps, a, n => dj_ E H ps a.2 n
 | .f2 _ _ _ :: ps, a, n => dj_ E H ps a.2 n
def dk_ (E : TE) : List Pm → Nat → List Nat
 | [], _ => []
 | .l t m :: ps, n => List.range' n (aF_ m (E.flat t)) ++ dk_ E ps (n + aF_ m (E.flat t))
 | .g t m :: ps, n => dk_ E ps (n + aF_ m (E.flat t))
 | .mp _ _ _ :: ps, n => n :: dk_ E ps (n + 1)
 | .b _ _ :: ps, n => n :: dk_ E ps (n + 1)
 | .bm _ t m :: ps, n => n :: dk_ E ps (n + 1 + aF_ m (E.flat t))
 | .d _ :: ps, n => dk_ E ps n
 | .p _ :: ps, n => dk_ E ps n
 | .f1 _ _ :: ps, n => dk_ E ps n
 | .f2 _ _ _ :: ps, n => dk_ E ps n
def retF (E : TE) (P : Program) (ps : List Pm) (rs : Rs) (a : PA E ps) (vs : List ResultVar) (b : Ba E) (s : St E) : Option (Tp E.S (rs.ts ++ bm_ ps)) :=
 match resXs E P b s vs with
 | none => none
 | some xs0 => prepRs E rs xs0 s.nx fun xs u _ => match takeR E (upH (upH (s.H b) u) (frzA E (upH (s.H b) u) ps rs xs)) rs xs with
  | none => none
  | some q => match dj_ E (upH (upH (s.H b) u) (frzA E (upH (s.H b) u) ps rs xs)) ps a 0 with
   | some bh => d0_ (iz_ (dk_ E ps 0 ++ (q.2 ++ bh.2))) (some (dR_ _ (hap q.1 bh.1)))
   | none => none
def hX_ : Nat → List (V1 E) → List (Nat × Option (SV E))
 | _, [] => []
 | i, x :: l => (i, some (.v x)) :: hX_ (i + 1) l
noncomputable def evFun (P : Program) (E : TE) (eqs : List (Nat × Nat)) (tab : Tab E) (f : Func) (ps : List Pm) (rs : Rs) (pl : Pl) (a : PA E ps) : Option (Tp E.S (rs.ts ++ bm_ ps)) :=
 match f.body, bY_ E ps a 0 with
 | some c, some svs => d0_ (Nat.ble svs.length f.ntmps) <| evCode P E eqs tab f.ntmps (Tp E.S (rs.ts ++ bm_ ps)) (retF E P ps rs a f.results.toList) c pl (Tp E.S (rs.ts ++ bm_ ps)) ⟨fun _ => none, fun _ => none, ar_ E ps⟩
   ⟨hX_ 0 svs, none, bk_ E ps a 0, none, ar_ E ps⟩ (fun ex s => match ex with
    | none => retF E P ps rs a f.results.toList ⟨fun _ => none, fun _ => none, ar_ E ps⟩ s
    | some _ => none) some
 | _, _ => none
end Rt
end Go
namespace Go
namespace Rt
open Go.RowKit
structure Org where
 z : Fz
 g : Ga
 lo : Nat
variable {P : Program} {E : TE} {eqs : List (Nat × Nat)} {tab : Tab E} {N : Nat} {Bs : List Nat} {F0 : Org} {w0 : World}
def Rel (P : Program) (E : TE) (Bs : List Nat) (F0 : Org) (w0 : World) (N : Nat) (L : Nat → Option (SV E)) (H : Nat → Option (Obj E)) (nx : Nat) (a : Act) (w : World) : Prop :=
 ∃ z g, ER P E z g N a L ∧ HR P E Bs F0.z.F w0 w z g H ∧ Fresh g nx ∧ F0.z.Le z ∧ F0.g.Le g
theorem ER.del {z : Fz} {g : Ga} {a : Act} {L L' : Nat → Option (SV E)} (h : ER P E z g N a L) {d : Nat} {v : Value} (hL : ∀ t u, L' t = some u → t ≠ d ∧ L t = some u) : ER P E z g N (a.put (some d) v) L' := by
 refine ⟨by simpa [Act.put] using h.size, h.defers, fun t u e => ?_⟩
 obtain ⟨h1, h2⟩ := hL t u e
 obtain ⟨v', h3, h4⟩ := h.get t u h2
 refine ⟨v', ?_, h4⟩
 simp only [Act.put]
 rw [Array.getElem?_setIfInBounds_ne (Ne.symm h1)]
 exact h3
theorem after_ok2 {b : Ba E} {s s1 : St E} {o : Oper} {v : Option (SV E)} {u : Chs E} {a : Act} {w' : World} {x : Value} {z : Fz} {g : Ga} (h : s.after N o v u = some s1) (hE : ER P E z g N a (s.L b)) (hH : HR P E Bs F0.z.F w0 w' z g (upH (s.H b) u)) (hf : Fresh g (nxU s.nx u)) (hv : ∀ sv, v = some sv → RV P E z g sv x) :
  (ER P E z g N (a.put o.dst x) (s1.L b) ∧ HR P E Bs F0.z.F w0 w' z g (s1.H b) ∧ Fresh g s1.nx ∧ s1.H b = upH (s.H b) u) ∧ (∀ t, (∀ d, o.dst = some d → t ≠ d) → s1.L b t = s.L b t) := by
 unfold St.after at h
 have hHe : ∀ (env : List (Nat × Option (SV E))) (nx : Nat), (St.H b { s with env := env, heap := u ++ s.heap, nx := nx }) = upH (s.H b) u := fun env nx => by
  unfold St.H
  rw [be_]
 cases hd : o.dst with
 | none =>
  rw [hd] at h
  obtain rfl := Option.some.inj h
  refine ⟨⟨hE, ?_, hf, hHe _ _⟩, fun t _ => rfl⟩
  have := hHe s.env (nxU s.nx u)
  show HR P E Bs F0.z.F w0 w' z g (St.H b _)
  rw [this]; exact hH
 | some d =>
  rw [hd] at h
  simp only at h
  split at h
  ·rename_i hN
   obtain rfl := Option.some.inj h
   have hL : ∀ t, t ≠ d → St.L b { s with env := (d, v) :: s.env, heap := u ++ s.heap, nx := nxU s.nx u } t = s.L b t := fun t ht => by
    unfold St.L
    simp only [aG_]
    split
    ·rename_i hx
     split at hx
     ·rename_i hb; exact absurd (Nat.eq_of_beq_eq_true hb) ht
     ·rw [hx]
    ·rename_i hx
     split at hx
     ·cases hx
     ·rw [hx]
   have hLd : St.L b { s with env := (d, v) :: s.env, heap := u ++ s.heap, nx := nxU s.nx u } d = v := by
    unfold St.L
    simp only [aG_]
    have : Nat.beq d d = true := by simp
    rw [this]
   refine ⟨⟨?_, ?_, hf, hHe _ _⟩, fun t ht => hL t (ht d rfl)⟩
   ·cases v with
    | some sv =>
     refine hE.put hN (hv sv rfl) fun t u' e => ?_
     by_cases ht : t = d
     ·subst ht
      rw [hLd] at e
      exact .inl ⟨rfl, (Option.some.inj e).symm⟩
     ·rw [hL t ht] at e
      exact .inr ⟨ht, e⟩
    | none =>
     refine hE.del fun t u' e => ?_
     by_cases ht : t = d
     ·subst ht
      rw [hLd] at e
      cases e
     ·rw [hL t ht] at e
      exact ⟨ht, e⟩
   ·have := hHe ((d, v) :: s.env) (nxU s.nx u)
    rw [this]; exact hH
  ·cases h
theorem dm_ {b : Ba E} {s s1 : St E} {o : Oper} {v : Option (SV E)} {u : Chs E} {a : Act} {w' : World} {x : Value} {z : Fz} {g : Ga} (h : s.after N o v u = some s1) (hE : ER P E z g N a (s.L b)) (hH : HR P E Bs F0.z.F w0 w' z g (upH (s.H b) u)) (hz0 : F0.z.Le z) (hg0 : F0.g.Le g) (hf : Fresh g (nxU s.nx u)) (hv : ∀ sv, v = some sv → RV P E z g sv x) :
  Rel P E Bs F0 w0 N (s1.L b) (s1.H b) s1.nx (a.put o.dst x) w' ∧ (∀ t, (∀ d, o.dst = some d → t ≠ d) → s1.L b t = s.L b t) :=
 let ⟨⟨h1, h2, h3, _⟩, h4⟩ := after_ok2 h hE hH hf hv
 ⟨⟨z, g, h1, h2, h3, hz0, hg0⟩, h4⟩
def gdOK (all : List Oper) (gd : Gd) (L : Nat → Option (SV E)) : Prop := match gd with
 | none => True
 | some (j, w, d) => (∃ oj, all[j]? = some oj ∧ oj.dst = some d) ∧ ∃ c, L d = some (.v (.one (.dt .bool c))) ∧ c = w
theorem oO_ {all : List Oper} {j d : Nat} {oj : Oper} {a : Act} {c : Bool} (h1 : all[j]? = some oj) (h2 : oj.dst = some d) (h3 : a.tmps[d]? = some (.bool c)) : yielded all.toArray a.tmps j = some c := by
 unfold yielded
 simp [h1, h2, h3]
theorem mo_ {all : List Oper} {gd : Gd} {L : Nat → Option (SV E)} {o : Oper} {a : Act} {z : Fz} {g : Ga} (h : m1_ o gd = true) (hg : gdOK all gd L) (hE : ER P E z g N a L) : Region.wanted o (yielded all.toArray a.tmps) = true := by
 unfold m1_ at h
 unfold Region.wanted
 split at h
 ·split at h
  ·rename_i hn; rw [hn]
  ·cases h
 ·rename_i j w d
  split at h
  ·cases h
  ·rename_i j' w' hgd
   simp only [Bool.and_eq_true] at h
   obtain rfl := Nat.eq_of_beq_eq_true h.1
   have hww : w = w' := by cases w <;> cases w' <;> simp_all
   subst hww
   obtain ⟨⟨oj, h1, h2⟩, c, h3, rfl⟩ := hg
   obtain ⟨v, h4, h5⟩ := hE.get d _ h3
   rw [hgd]
   have hv := SV.bool_ok rfl h5
   subst hv
   simp only
   rw [oO_ h1 h2 h4]
   simp
structure Walk (P : Program) (E : TE) (ev : Ev E) (N : Nat) (Bs : List Nat) (F0 : Org) (w0 : World) (all : List Oper) where
 W : (Act → World → Prop) → List Oper → Nat → Act → World → Prop
 nil : ∀ {J i a w}, J a w → W J [] i a w
 app : ∀ {J1 J l1 l2 i a w}, W J1 l1 i a w → (∀ a w, J1 a w → W J l2 (i + l1.length) a w) → W J (l1 ++ l2) i a w
 skip : ∀ {J o l i a w}, all[i]? = some o → Region.wanted o (yielded all.toArray a.tmps) = false → W J l (i + 1) (a.put o.dst undef) w → W J (o :: l) i a w
 step : ∀ {J o l i a w} {R : Type} {L H nx z g} {k : Option (SV E) → Chs E → Option R} {r : R}, all[i]? = some o → Region.wanted o (yielded all.toArray a.tmps) = true →
  ER P E z g N a L → HR P E Bs F0.z.F w0 w z g H → Fresh g nx → F0.z.Le z → F0.g.Le g → ev L H nx o R k = some r →
  (∀ s u v w' z2 g2, k s u = some r → z.Le z2 → g.Le g2 → ER P E z2 g2 N a L → HR P E Bs F0.z.F w0 w' z2 g2 (upH H u) → Fresh g2 (nxU nx u) → (∀ sv, s = some sv → RV P E z2 g2 sv v) → W J l (i + 1) (a.put o.dst v) w') → W J (o :: l) i a w
 pick : ∀ {J o l i a w v}, all[i]? = some o → Region.wanted o (yielded all.toArray a.tmps) = true → (∀ w, (execOp a.eval o).run P w = .ok (.value v) w) → W J l (i + 1) (a.put o.dst v) w → W J (o :: l) i a w
theorem mp_ {d : Nat} : ∀ {l body rest : List Oper} {pk : Oper}, g6_ d l = some (body, pk, rest) → l = body ++ pk :: rest ∧ ∃ x y, pk.op = .pick (.tmp d) x y
 | [], _, _, _, h => by cases h
 | o :: r, body, rest, pk, h => by
  have tail : ∀ {q : List Oper × Oper × List Oper}, g6_ d r = some q → (o :: q.1, q.2.1, q.2.2) = (body, pk, rest) → o :: r = body ++ pk :: rest ∧ ∃ x y, pk.op = .pick (.tmp d) x y := by
   rintro ⟨l, p, q⟩ hq he
   simp only [Prod.mk.injEq] at he
   obtain ⟨rfl, rfl, rfl⟩ := he
   obtain ⟨h1, h2⟩ := mp_ hq
   exact ⟨by rw [h1]; rfl, h2⟩
  unfold g6_ at h
  split at h
  ·rename_i d' x y ho
   split at h
   ·rename_i hb
    obtain rfl := Nat.eq_of_beq_eq_true hb
    simp only [Option.some.injEq, Prod.mk.injEq] at h
    obtain ⟨rfl, rfl, rfl⟩ := h
    exact ⟨rfl, x, y, ho⟩
   ·split at h
    ·rename_i l p q hq
     exact tail hq (Option.some.inj h)
    ·cases h
  ·split at h
   ·rename_i l p q hq
    exact tail hq (Option.some.inj h)
   ·cases h
theorem groupOf_eq {o : Oper} {idx : Nat} {l body rest : List Oper} {d : Nat} {w : Bool} {pk : Oper} (h : groupOf o idx l = some (d, w, body, pk, rest)) : o.dst = some d ∧ l = body ++ pk :: rest ∧ ∃ x y, pk.op = .pick (.tmp d) x y := by
 unfold groupOf at h
 split at h
 ·cases h
 ·split at h
  ·rename_i j w' d' hg hd
   split at h
   ·split at h
    ·rename_i l' p q hq
     simp only [Option.some.injEq, Prod.mk.injEq] at h
     obtain ⟨rfl, rfl, rfl, rfl, rfl⟩ := h
     exact ⟨hd, mp_ hq⟩
    ·cases h
   ·cases h
  ·cases h
theorem skip_ok {ev : Ev E} {all : List Oper} (wk : Walk P E ev N Bs F0 w0 all) {idx d : Nat} {wt c : Bool} {J : Act → World → Prop} (hc : c ≠ wt) {os : Oper} (h1 : all[idx]? = some os) (h2 : os.dst = some d) : ∀ (l tl : List Oper) (i : Nat) (a : Act) (w : World), all.drop i = l ++ tl → idx < i → skipB idx d wt l i = true →
  a.tmps[d]? = some (.bool c) → (∀ j, idx < j → j < i → yielded all.toArray a.tmps j = none) →
  (∀ a', a'.tmps.size = a.tmps.size → a'.defers = a.defers → (∀ t, aA_ t (dS_ l) = false → a'.tmps[t]? = a.tmps[t]?) → J a' w) → wk.W J l i a w
 | [], tl, i, a, w, _, _, _, _, _, hJ => wk.nil (hJ a rfl rfl fun _ _ => rfl)
 | o :: l, tl, i, a, w, hd, hi, hs, hcd, hoff, hJ => by
  have ho : all[i]? = some o := by
   have : (all.drop i)[0]? = some o := by rw [hd]; rfl
   rw [List.getElem?_drop] at this
   simpa using this
  simp only [skipB, Bool.and_eq_true] at hs
  obtain ⟨hs1, hs2⟩ := hs
  split at hs1
  ·rename_i j w' d' hg hdst
   simp only [Bool.and_eq_true, Bool.or_eq_true, Bool.not_eq_true'] at hs1
   obtain ⟨hs3, hs4⟩ := hs1
   have hne : d ≠ d' := cO_ hs4
   have hnw : Region.wanted o (yielded all.toArray a.tmps) = false := by
    unfold Region.wanted
    rw [hg]
    simp only
    rcases hs3 with ⟨e1, e2⟩ | ⟨e1, e2⟩
    ·obtain rfl := Nat.eq_of_beq_eq_true e1
     have hww : wt = w' := by cases wt <;> cases w' <;> simp_all
     subst hww
     rw [oO_ h1 h2 hcd]
     cases c <;> cases wt <;> simp_all
    ·have e1' : idx < j := by simpa using e1
     have e2' : j < i := by simpa using e2
     rw [hoff j e1' e2']
     rfl
   refine wk.skip ho hnw ?_
   rw [hdst]
   refine skip_ok wk hc h1 h2 l tl (i + 1) _ w ?_ (by omega) hs2 ?_ (fun j hj1 hj2 => ?_) fun a' e1 e2 e3 => hJ a' ?_ ?_ fun t ht => ?_
   ·have := congrArg (List.drop 1) hd
    rw [List.drop_drop] at this
    simpa [Nat.add_comm] using this
   ·simp only [Act.put]
    rw [Array.getElem?_setIfInBounds_ne (Ne.symm hne)]
    exact hcd
   ·unfold yielded
    by_cases hji : j = i
    ·subst hji
     simp only [List.getElem?_toArray, ho, Option.bind_some, hdst, Act.put]
     rw [Array.getElem?_setIfInBounds]
     split
     ·rename_i h
      split at h
      ·split at h
       ·obtain h := Option.some.inj h; simp [undef] at h
       ·cases h
      ·rename_i hx; exact absurd rfl hx
     ·rfl
    ·have hj3 := hoff j hj1 (by omega)
     unfold yielded at hj3
     simp only [List.getElem?_toArray] at hj3 ⊢
     cases hoj : (all[j]?).bind (·.dst) with
     | none => rfl
     | some dj =>
      rw [hoj] at hj3
      simp only [Option.bind_some] at hj3 ⊢
      simp only [Act.put, Array.getElem?_setIfInBounds]
      by_cases hdd : d' = dj
      ·rw [if_pos hdd]
       split
       ·rename_i h
        split at h
        ·obtain h := Option.some.inj h; simp [undef] at h
        ·cases h
       ·rfl
      ·rw [if_neg hdd]
       exact hj3
   ·rw [e1]; simp [Act.put]
   ·rw [e2]; simp [Act.put]
   ·simp only [dS_, hdst, aA_] at ht
    split at ht
    ·cases ht
    ·rename_i hb
     rw [e3 t ht]
     simp only [Act.put]
     rw [Array.getElem?_setIfInBounds_ne (Ne.symm (cO_ hb))]
  ·cases hs1
end Rt
end Go
namespace Go
namespace Rt
open Go.RowKit
variable {P : Program} {E : TE} {eqs : List (Nat × Nat)} {tab : Tab E} {N : Nat} {Bs : List Nat} {F0 : Org} {w0 : World}
theorem new_L (b : Ba E) (s : St E) (nx : Nat) : (St.new nx).L (s.base b) = s.L b := rfl
theorem new_H (b : Ba E) (s : St E) (nx : Nat) : (St.new nx).H (s.base b) = s.H b := rfl
theorem memN_true {t : Nat} : ∀ {l : List Nat}, aA_ t l = true ↔ t ∈ l
 | [] => by simp [aA_]
 | u :: l => by
  simp only [aA_]
  split
  ·rename_i hb
   obtain rfl := Nat.eq_of_beq_eq_true hb
   simp
  ·rename_i hb
   have := cO_ hb
   rw [memN_true]
   simp [this]
theorem oP_ {ds : List Nat} {t : Nat} : ∀ {l : List (Nat × Option (SV E))}, keysIn ds l = true → aA_ t ds = false → aG_ t l = none
 | [], _, _ => rfl
 | p :: l, h, ht => by
  simp only [keysIn, Bool.and_eq_true] at h
  simp only [aG_]
  split
  ·rename_i hb
   obtain rfl := Nat.eq_of_beq_eq_true hb
   rw [h.1] at ht; cases ht
  ·exact oP_ h.2 ht
theorem lZ_ {f : Nat → Option (Obj E)} {n i : Nat} (hi : i < n) : ∀ {l : Chs E}, ln_ n l = true → upH f l i = f i
 | [], _ => rfl
 | p :: l, h => by
  simp only [ln_, Bool.and_eq_true] at h
  have := Nat.le_of_ble_eq_true h.1
  simp only [upH]
  split
  ·rename_i hb
   have := Nat.eq_of_beq_eq_true hb
   omega
  ·exact lZ_ hi h.2
theorem skip_dst {idx d : Nat} {w : Bool} : ∀ {l : List Oper} {i : Nat}, skipB idx d w l i = true → aA_ d (dS_ l) = false
 | [], _, _ => rfl
 | o :: l, i, h => by
  simp only [skipB, Bool.and_eq_true] at h
  obtain ⟨h1, h2⟩ := h
  split at h1
  ·rename_i j w' d' hg hd
   simp only [Bool.and_eq_true, Bool.not_eq_true'] at h1
   simp only [dS_, hd, aA_]
   rw [h1.2]
   exact skip_dst h2
  ·cases h1
theorem clear_in {t : Nat} : ∀ {ds : List Nat} {l : List (Nat × Option (SV E))}, aA_ t ds = true → aG_ t (clear ds ++ l) = some none
 | [], _, h => by simp [aA_] at h
 | d :: ds, l, h => by
  unfold clear
  simp only [List.map_cons, List.cons_append, aG_]
  by_cases hb : Nat.beq t d = true
  ·rw [hb]
  ·rw [Bool.not_eq_true] at hb
   rw [hb]
   refine clear_in (ds := ds) ?_
   simpa only [aA_, hb] using h
theorem clear_out {t : Nat} : ∀ {ds : List Nat} {l : List (Nat × Option (SV E))}, aA_ t ds = false → aG_ t (clear ds ++ l) = aG_ t l
 | [], _, _ => rfl
 | d :: ds, l, h => by
  unfold clear
  simp only [List.map_cons, List.cons_append, aG_]
  by_cases hb : Nat.beq t d = true
  ·simp [aA_, hb] at h
  ·rw [Bool.not_eq_true] at hb
   rw [hb]
   refine clear_out (ds := ds) ?_
   simpa only [aA_, hb] using h
def hY_ (ds : List Nat) (L : Nat → Option (SV E)) (t : Nat) : Option (SV E) := if aA_ t ds then none else L t
theorem oQ_ {all : List Oper} {gd : Gd} {o : Oper} {L L' : Nat → Option (SV E)} (h : gdOK all gd L) (hd : dstOK o gd = true) (hL : ∀ t, (∀ d, o.dst = some d → t ≠ d) → L' t = L t) : gdOK all gd L' := by
 unfold gdOK at *
 split
 ·trivial
 ·rename_i j w d
  obtain ⟨h1, c, h2, h3⟩ := h
  refine ⟨h1, c, ?_, h3⟩
  rw [hL d fun d' hd' => ?_]
  ·exact h2
  ·unfold dstOK at hd
   simp only [hd', Bool.not_eq_true'] at hd
   exact cO_ hd
theorem drop_next {all l tl : List Oper} {o : Oper} {i : Nat} (h : all.drop i = (o :: l) ++ tl) : all[i]? = some o ∧ all.drop (i + 1) = l ++ tl := by
 constructor
 ·have : (all.drop i)[0]? = some o := by rw [h]; rfl
  rw [List.getElem?_drop] at this
  simpa using this
 ·have := congrArg (List.drop 1) h
  rw [List.drop_drop] at this
  simpa [Nat.add_comm] using this
theorem drop_more {all l m tl : List Oper} {i : Nat} (h : all.drop i = (l ++ m) ++ tl) : all.drop (i + l.length) = m ++ tl := by
 have := congrArg (List.drop l.length) h
 rw [List.drop_drop, List.append_assoc, List.drop_left] at this
 exact this
theorem pick_run {o : Oper} {d : Nat} {x y : Operand} {ρ : Operand → Value} {c e : Bool} (ho : o.op = .pick (.tmp d) x y) (hd : ρ (.tmp d) = .bool c) (hv : (bif c then ρ x else ρ y) = .bool e) (w : World) : (execOp ρ o).run P w = .ok (.value (.bool e)) w := by
 unfold execOp
 rw [ho]
 simp only [hd]
 cases c with
 | true => simp only [cond_true] at hv; simp [asBool, hv]
 | false => simp only [cond_false] at hv; simp [asBool, hv]
theorem fF_ {ev : Ev E} {all : List Oper} (wk : Walk P E ev N Bs F0 w0 all) : ∀ (n : Nat) {R : Type} {gd : Gd} {l : List Oper} {idx : Nat} {b : Ba E} {s : St E} {k : St E → Option R} {r : R} {a : Act} {w : World} {J : Act → World → Prop} {tl : List Oper},
  cV_ P E ev N n R gd l idx b s k = some r → all.drop idx = l ++ tl → Rel P E Bs F0 w0 N (s.L b) (s.H b) s.nx a w → gdOK all gd (s.L b) →
  (∀ s' a' w', k s' = some r → Rel P E Bs F0 w0 N (s'.L b) (s'.H b) s'.nx a' w' → gdOK all gd (s'.L b) → J a' w') → wk.W J l idx a w := by
 intro n
 induction n with
 | zero => intro R gd l idx b s k r a w J tl h; cases h
 | succ n ih =>
  intro R gd l idx b s k r a w J tl h hd hR hg hK
  cases l with
  | nil => exact wk.nil (hK s a w h hR hg)
  | cons o rest =>
   unfold cV_ at h
   split at h
   ·cases h
   ·rename_i hgo
    simp only [Bool.and_eq_true] at hgo
    obtain ⟨z, g, hE, hH, hf, hz0, hg0⟩ := hR
    obtain ⟨hdo, hdr⟩ := drop_next hd
    refine wk.step hdo (mo_ hgo.1 hg hE) hE hH hf hz0 hg0 h fun v u x w' z2 g2 hk hz2 hg2 hE2 hH2 hf2 hv => ?_
    split at hk
    ·cases hk
    ·rename_i s1 hs1
     obtain ⟨hR1, hL1⟩ := dm_ hs1 hE2 hH2 (hz0.trans hz2) (hg0.trans hg2) hf2 hv
     have hg1 := oQ_ hg hgo.2 hL1
     split at hk
     ·exact ih hk hdr hR1 hg1 hK
     ·rename_i d wt body pk rest' hgrp
      obtain ⟨hod, rfl, x0, y0, hpk⟩ := groupOf_eq hgrp
      split at hk
      ·rename_i c d1 x y pd hc hpo hpd
       rw [hpk] at hpo
       injection hpo with e1 e2 e3
       subst e1; subst e2; subst e3
       split at hk
       ·cases hk
       ·rename_i hchk
        simp only [Bool.and_eq_true] at hchk
        obtain ⟨⟨⟨⟨⟨hp1, hp2⟩, hp3⟩, hp4⟩, hp5⟩, hp6⟩ := hchk
        have hdd : aA_ d (dS_ body) = false := skip_dst hp5
        -- the group's value
        have hres : ∃ res, cV_ P E ev N n R gd rest' (idx + 1 + body.length + 1) b { s1 with env := (pd, some (kV_ res)) :: (clear (dS_ body) ++ s1.env), nx := s1.nx + ij_ body } k = some r ∧
          (c = wt → cV_ P E ev N n Bool (some (idx, wt, d)) body (idx + 1) (s1.base b) (St.new s1.nx) (hU_ (s1.base b) s1.nx (ij_ body) (dS_ body) (hl_ wt x0 y0)) = some res) ∧ (c ≠ wt → res = !wt) := by
         obtain ⟨tot, htot⟩ : ∃ tot, totalL P body = tot := ⟨_, rfl⟩
         rw [htot] at hk
         cases tot with
         | true =>
          simp only at hk
          obtain ⟨oe, he⟩ : ∃ oe, cV_ P E ev N n Bool (some (idx, wt, d)) body (idx + 1) (s1.base b) (St.new s1.nx) (hU_ (s1.base b) s1.nx (ij_ body) (dS_ body) (hl_ wt x0 y0)) = oe := ⟨_, rfl⟩
          rw [he] at hk ⊢
          cases oe with
          | none => cases hk
          | some e =>
           refine ⟨_, hk, fun hcw => ?_, fun hcw => ?_⟩
           ·cases wt <;> subst hcw <;> rfl
           ·cases wt <;> cases c <;> simp_all [hl_]
         | false =>
          simp only at hk
          obtain ⟨e, he, hk⟩ := bind_some hk
          refine ⟨e, hk, fun hcw => ?_, fun hcw => ?_⟩
          ·cases wt <;> subst hcw <;> exact he
          ·cases wt <;> cases c <;> simp_all [hl_]
        obtain ⟨res, hk2, hact, hinact⟩ := hres
        have hlt : ∀ j p, s1.H b j = some p → j < s1.nx := fun j p hj => by
         obtain ⟨z3, g3, _, h2, h3, _⟩ := hR1
         obtain ⟨l, hl⟩ := (h2.hold j p hj).loc
         rcases Nat.lt_or_ge j s1.nx with h5 | h5
         ·exact h5
         ·rw [h3 j h5] at hl; cases hl
        refine wk.app (J1 := fun a2 w2 => Rel P E Bs F0 w0 N (hY_ (dS_ body) (s1.L b)) (s1.H b) (s1.nx + ij_ body) a2 w2 ∧ a2.eval (.tmp d) = .bool c ∧ (bif c then a2.eval x0 else a2.eval y0) = .bool res) ?_ ?_
        ·by_cases hcw : c = wt
         ·refine ih (tl := pk :: rest' ++ tl) (hact hcw) (by rw [hdr]; simp) (by rw [new_L, new_H]; exact hR1) ⟨⟨o, hdo, hod⟩, c, hc, hcw⟩ fun s2 a2 w2 hk3 hR2 hg2 => ?_
          unfold hU_ at hk3
          split at hk3
          ·rename_i e hchk2 hvis hhvis hop
           obtain rfl := Option.some.inj hk3
           simp only [Bool.and_eq_true] at hchk2
           obtain ⟨⟨hk4, hk5⟩, hk6⟩ := hchk2
           have hLs : ∀ t, aA_ t (dS_ body) = false → s2.L (s1.base b) t = s1.L b t := fun t htd => by
            unfold St.L
            rw [oP_ hk4 htd, hvis]
            rfl
           have hHs : ∀ j, j < s1.nx → s2.H (s1.base b) j = s1.H b j := fun j hj => by
            unfold St.H
            rw [lZ_ hj hk5, hhvis]
            rfl
           obtain ⟨z3, g3, hE3, hH3, hf3, ho3⟩ := hR2
           refine ⟨⟨z3, g3, hE3.less fun t u hu => ?_, hH3.less fun j p hj => ?_, (fun i hi => hf3 i (by have := Nat.le_of_ble_eq_true hk6; omega)), ho3⟩, ?_, ?_⟩
           ·unfold hY_ at hu
            split at hu
            ·cases hu
            ·rename_i hm
             rw [hLs t (by simpa using hm)]; exact hu
           ·rw [hHs j (hlt j p hj)]; exact hj
           ·have := hE3.op (.tmp d) (.v (.one (.dt .bool c))) (by show s2.L (s1.base b) d = _; rw [hLs d hdd]; exact hc)
            exact SV.bool_ok rfl this
           ·have := SV.bool_ok rfl (hE3.op _ _ hop)
            subst hcw
            cases c <;> exact this
          ·cases hk3
         ·obtain ⟨z3, g3, hE3, hH3, hf3, ho3⟩ := hR1
          have hcv : ∃ v, (a.put o.dst x).tmps[d]? = some v ∧ RV P E z3 g3 (.v (.one (.dt .bool c))) v := hE3.get d _ hc
          obtain ⟨v, hv1, hv2⟩ := hcv
          obtain rfl := SV.bool_ok rfl hv2
          refine skip_ok wk hcw hdo hod body (pk :: rest' ++ tl) (idx + 1) _ w' (by rw [hdr]; simp) (Nat.lt_succ_self idx) hp5 hv1 (fun j h5 h6 => by omega) fun a' h5 h6 h7 => ?_
          refine ⟨⟨z3, g3, ⟨by rw [h5]; exact hE3.size, by rw [h6]; exact hE3.defers, fun t u hu => ?_⟩, hH3, (fun i hi => hf3 i (by omega)), ho3⟩, ?_, ?_⟩
          ·unfold hY_ at hu
           split at hu
           ·cases hu
           ·rename_i hm
            rw [h7 t (by simpa using hm)]
            exact hE3.get t u hu
          ·have h8 := h7 d hdd
           rw [hv1] at h8
           simp [Act.eval, h8]
          ·have hcc : ∀ {q : Operand}, isBoolC (!wt) q = true → a'.eval q = .bool (!wt) := fun {q} hq => by
            unfold isBoolC at hq
            split at hq
            ·rename_i b'
             show Value.bool b' = _
             cases wt <;> cases b' <;> simp_all
            ·cases hq
           rw [hinact hcw]
           have := hcc hp6
           cases wt <;> cases c <;> simp_all [hl_]
        ·rintro a2 w2 ⟨hR2, hv1, hv2⟩
         have hdp : all.drop (idx + 1 + body.length) = (pk :: rest') ++ tl := drop_more hdr
         obtain ⟨hpi, hpr⟩ := drop_next hdp
         have hg2 : gdOK all gd (hY_ (dS_ body) (s1.L b)) := by
          unfold gdOK at hg1 ⊢
          split
          ·trivial
          ·rename_i j w1 d1
           obtain ⟨h1, c1, h2, h3⟩ := hg1
           refine ⟨h1, c1, ?_, h3⟩
           unfold notIn at hp3
           simp only [Bool.not_eq_true'] at hp3
           unfold hY_
           rw [hp3]
           exact h2
         obtain ⟨z3, g3, hE3, hH3, hf3, ho3⟩ := hR2
         refine wk.pick hpi (mo_ hp1 hg2 hE3) (fun w => pick_run hpk hv1 hv2 w) ?_
         have hLs : ∀ t, St.L b { s1 with env := (pd, some (kV_ res)) :: (clear (dS_ body) ++ s1.env), nx := s1.nx + ij_ body } t = if t = pd then some (kV_ res) else hY_ (dS_ body) (s1.L b) t := fun t => by
          unfold St.L hY_
          simp only [aG_]
          by_cases htp : t = pd
          ·subst htp
           have : Nat.beq t t = true := by simp
           rw [this, if_pos rfl]
          ·rw [if_neg htp]
           have : Nat.beq t pd = false := by
            cases hb : Nat.beq t pd with
            | false => rfl
            | true => exact absurd (Nat.eq_of_beq_eq_true hb) htp
           rw [this]
           by_cases hm : aA_ t (dS_ body) = true
           ·rw [clear_in hm, if_pos hm]
           ·rw [clear_out (by simpa using hm), if_neg hm]
         refine ih hk2 hpr ⟨z3, g3, ?_, hH3, hf3, ho3⟩ ?_ hK
         ·rw [hpd]
          refine hE3.put hp4 (s := kV_ res) (RD.bool .nil) fun t u hu => ?_
          rw [hLs t] at hu
          split at hu
          ·rename_i htp; exact .inl ⟨htp, (Option.some.inj hu).symm⟩
          ·rename_i htp; exact .inr ⟨htp, hu⟩
         ·refine oQ_ hg2 hp2 fun t ht => ?_
          rw [hLs t, if_neg (ht pd hpd)]
      ·cases hk
def seqWalk (heq : ∀ p ∈ eqs, bl_ P E p.1 p.2) (ht : tab.OK P E) (all : List Oper) : Walk P E (fun L H nx o _ k => evOp P E eqs tab L H nx o k) N Bs F0 w0 all where
 W J l _ a w := ∀ (rest : List Oper) (Q : Exit → Act → World → Prop), (∀ a' w', J a' w' → wpList P all.toArray Q rest a' w') → wpList P all.toArray Q (l ++ rest) a w
 nil hJ := fun rest Q h => h _ _ hJ
 app h1 h2 := fun rest Q h => by
  rw [List.append_assoc]
  exact h1 _ Q fun a' w' hJ => h2 a' w' hJ rest Q h
 skip ho hw h1 := fun rest Q h => by
  simp only [List.cons_append]
  unfold wpList
  rw [if_neg (by rw [hw]; exact Bool.false_ne_true)]
  exact h1 rest Q h
 step ho hw hE hH hf hz hg hev hk := fun rest Q h => by
  simp only [List.cons_append]
  refine wpList_step fun K hK' => ?_
  rw [if_pos hw]
  exact evOp_ok heq ht hf hE hH hev fun v u x w' z2 g2 h1 h2 h3 h4 h5 h6 h7 => hK' _ _ (hk v u x w' z2 g2 h1 h2 h3 h4 h5 h6 h7 rest Q h)
 pick ho hw hr h1 := fun rest Q h => by
  simp only [List.cons_append]
  refine wpList_step fun K hK' => ?_
  rw [if_pos hw]
  unfold Oper.wp
  rw [hr _]
  exact hK' _ _ (h1 rest Q h)
theorem evReg_ok (heq : ∀ p ∈ eqs, bl_ P E p.1 p.2) (ht : tab.OK P E) {R : Type} {l : List Oper} {id : Nat} {b : Ba E} {s : St E} {k : St E → Option R} {r : R} {a : Act} {w : World} {Q : Exit → Act → World → Prop} (h : evReg P E eqs tab N l b s k = some r) (hR : Rel P E Bs F0 w0 N (s.L b) (s.H b) s.nx a w)
  (hK : ∀ s' a' w', k s' = some r → Rel P E Bs F0 w0 N (s'.L b) (s'.H b) s'.nx a' w' → Q .normal a' w') : (Code.region id l.toArray false).wp P Q a w :=
 r_list (by
  have := fF_ (seqWalk heq ht l) _ (tl := []) (J := fun a' w' => Q .normal a' w') h (by simp) hR trivial fun s' a' w' h1 h2 _ => hK s' a' w' h1 h2
  have := this [] Q fun a' w' h => h
  simpa using this)
end Rt
end Go
namespace Go
namespace Rt
open Go.RowKit
variable {P : Program} {E : TE} {eqs : List (Nat × Nat)} {tab : Tab E} {N : Nat} {Bs : List Nat} {F0 : Org} {w0 : World}
theorem in_ : ∀ (l1 l2 : List Oper) (i : Nat), ec_ i (l1 ++ l2) = ec_ i l1 ++ ec_ (i + l1.length) l2
 | [], _, _ => rfl
 | o :: l1, l2, i => by
  simp only [List.cons_append, ec_, List.length_cons]
  rw [in_ l1 l2 (i + 1), show i + 1 + l1.length = i + (l1.length + 1) by omega]
def quietWalk (heq : ∀ p ∈ eqs, bl_ P E p.1 p.2) (ht : tab.OK P E) (all : List Oper) (tl fr : List Nat) (m : Nat) (hm : ∀ i, i < m → fr.contains i = false) (W : World) (I : World → Prop) (hI : ∀ z g H, HR P E Bs F0.z.F w0 W z g H → F0.z.Le z → ∀ w', I w' → Keeps P E z g H W w') (Q : Exit → Act → World → Prop) : Walk P E (fun L H nx o _ k => hi_ P E eqs tab L H nx o k) N Bs F0 w0 all where
 W J l i a w := w = W → i + l.length ≤ m → ∀ rest : List (Nat × Bool), (∀ a', J a' W → bV_ P all.toArray tl fr I Q rest a' W) → bV_ P all.toArray tl fr I Q (ec_ i l ++ rest) a W
 nil hJ := fun e _ rest h => h _ (e ▸ hJ)
 app h1 h2 := fun e hle rest h => by
  rw [in_, List.append_assoc]
  rw [List.length_append] at hle
  exact h1 e (by omega) _ fun a' hJ => h2 a' W hJ rfl (by omega) rest h
 skip {J o l i a w} ho hw h1 := fun e hle rest h => by
  simp only [List.length_cons] at hle
  simp only [ec_, List.cons_append]
  refine eu_ o ho fun K hK => ?_
  rw [if_neg (by rw [hw]; exact Bool.false_ne_true)]
  exact hK _ (h1 e (by omega) rest h)
 step {J o l i a w R L H nx z g k r} ho hw hE hH hf hz hg hev hk := fun e hle rest h => by
  simp only [List.length_cons] at hle
  subst e
  simp only [ec_, List.cons_append]
  refine eu_ o ho fun K hK => ?_
  rw [if_pos hw, hm i (by omega)]
  obtain ⟨s, u, v, g2, h1, h2, h3, h4, h5, h6⟩ := jF_ heq ht hf hE hH (hI z g H hH hz) hev
  refine ⟨v, h6, hK _ ?_⟩
  exact hk (some s) u v w z g2 h1 (Fz.Le.refl z) h2 (hE.le (Fz.Le.refl z) h2) h3 h4.nxU (fun sv hsv => by obtain rfl := Option.some.inj hsv; exact h5) rfl (by omega) rest h
 pick {J o l i a w v} ho hw hr h1 := fun e hle rest h => by
  simp only [List.length_cons] at hle
  simp only [ec_, List.cons_append]
  refine eu_ o ho fun K hK => ?_
  rw [if_pos hw]
  exact ⟨v, fun w' _ => by rw [hr]; exact ⟨rfl, rfl⟩, hK _ (h1 e (by omega) rest h)⟩
theorem Rel.ext {L : Nat → Option (SV E)} {H : Nat → Option (Obj E)} {nx : Nat} {a : Act} {w w' : World} (h : Rel P E Bs F0 w0 N L H nx a w) (hx : Ext w w') : Rel P E Bs F0 w0 N L H nx a w' :=
 let ⟨z, g, h1, h2, h3⟩ := h
 ⟨z, g, h1, h2.ext hx, h3⟩
theorem Rel.inz {L : Nat → Option (SV E)} {H : Nat → Option (Obj E)} {nx : Nat} {a : Act} {w : World} (h : Rel P E Bs F0 w0 N L H nx a w) : F0.z.In w := by
 obtain ⟨z, g, _, h2, _, h4, _⟩ := h
 exact fun k hk => ⟨(h2.fz k (h4 k hk).1).1, (h2.fz k (h4 k hk).1).2.trans (h4 k hk).2⟩
theorem nV_ : ∀ {fl : List Nat} {n k : Nat}, fl[k]? = some 2 → n + k ∈ tlOf n fl
 | [], n, k, h => by simp at h
 | f :: fl, n, 0, h => by
  simp only [List.getElem?_cons_zero, Option.some.injEq] at h
  subst h
  simp [tlOf]
 | f :: fl, n, k + 1, h => by
  have := nV_ (n := n + 1) (show fl[k]? = some 2 by simpa using h)
  rw [show n + 1 + k = n + (k + 1) by omega] at this
  simp only [tlOf]
  split
  ·exact List.mem_cons_of_mem _ this
  ·exact this
theorem cl_ {o : Oper} (h : o.guard = none) (y : Nat → Option Bool) : Region.wanted o y = true := by
 unfold Region.wanted
 rw [h]
theorem mem_frOf : ∀ {fl : List Nat} {n i : Nat}, i ∈ frOf n fl → n ≤ i ∧ fl[i - n]? = some 4
 | [], n, i, h => by cases h
 | f :: fl, n, i, h => by
  have next : i ∈ frOf (n + 1) fl → n ≤ i ∧ (f :: fl)[i - n]? = some 4 := fun h => by
   obtain ⟨h1, h2⟩ := mem_frOf h
   refine ⟨by omega, ?_⟩
   rw [show i - n = (i - (n + 1)) + 1 by omega]
   simpa using h2
  simp only [frOf] at h
  split at h
  ·rename_i hb
   rcases List.mem_cons.1 h with rfl | h
   ·obtain rfl := Nat.eq_of_beq_eq_true hb
    simp
   ·exact next h
  ·exact next h
theorem oR_ : ∀ {fl : List Nat} {i : Nat}, i < ax_ fl → fl[i]? = some 0
 | [], i, h => by simp [ax_] at h
 | f :: fl, i, h => by
  simp only [ax_] at h
  split at h
  ·rename_i hb
   obtain rfl := Nat.eq_of_beq_eq_true hb
   cases i with
   | zero => rfl
   | succ i => simpa using oR_ (fl := fl) (i := i) (by omega)
  ·omega
theorem notFree {fl : List Nat} {i : Nat} (h : i < ax_ fl) : (frOf 0 fl).contains i = false := by
 cases hc : (frOf 0 fl).contains i with
 | false => rfl
 | true =>
  obtain ⟨_, h1⟩ := mem_frOf (List.contains_iff_mem.1 hc)
  rw [Nat.sub_zero, oR_ h] at h1
  cases h1
theorem evH_ok (heq : ∀ p ∈ eqs, bl_ P E p.1 p.2) (ht : tab.OK P E) {W : World} {I : World → Prop} (hI : ∀ z g H, HR P E Bs F0.z.F w0 W z g H → F0.z.Le z → ∀ w', I w' → Keeps P E z g H W w') {R : Type} {r : R} {all : List Oper} {tl fr : List Nat} {Q : Exit → Act → World → Prop} {b : Ba E} {k : St E → Option R} {rest : List (Nat × Bool)}
  (hK : ∀ s' a', k s' = some r → Rel P E Bs F0 w0 N (s'.L b) (s'.H b) s'.nx a' W → bV_ P all.toArray tl fr I Q rest a' W) : ∀ {hs : List Nat} {s : St E} {a : Act},
  evH P E eqs tab N b all fr hs s k = some r → Rel P E Bs F0 w0 N (s.L b) (s.H b) s.nx a W → bV_ P all.toArray tl fr I Q (hOrd hs ++ rest) a W
 | [], s, a, h, hR => hK s a h hR
 | i :: hs, s, a, h, hR => by
  unfold evH at h
  split at h
  ·cases h
  ·rename_i o ho
   split at h
   ·cases h
   ·rename_i hgd
    obtain ⟨z, g, hE, hH, hfr, hz0, hg0⟩ := hR
    simp only [hOrd, List.cons_append]
    refine eu_ o ho fun K hK' => ?_
    rw [if_pos (cl_ hgd _)]
    split at h
    ·rename_i hc
     rw [hc]
     obtain ⟨sv, v, up, g2, hk, hgl, hgn, hv, hrun, hup⟩ := hS_ (nx := s.nx) heq hE.op (hH.less (H' := fun _ => none) fun _ _ e => by cases e) h (fun _ => True)
     simp only at hk
     split at hk
     ·cases hk
     ·obtain rfl : g2 = g := hup
      split at hk
      ·rename_i s1 hs1
       obtain ⟨hR1, _⟩ := dm_ (u := []) hs1 hE hH hz0 hg0 (fun j hj => hfr j (by simp only [nxU] at hj; omega)) (fun sv' e => by obtain rfl := Option.some.inj e; exact hv)
       exact ⟨v, fun w' _ => by rw [hrun w' trivial]; exact ⟨rfl, rfl⟩, hK' _ (evH_ok heq ht hI hK hk hR1)⟩
      ·cases hk
    ·rename_i hc
     rw [hc]
     obtain ⟨sv, u, v, g2, hk, h2, h3, h4, h5, h6⟩ := jF_ heq ht hfr hE hH (hI z g _ hH hz0) h
     simp only at hk
     split at hk
     ·rename_i s1 hs1
      obtain ⟨hR1, _⟩ := dm_ hs1 (hE.le (Fz.Le.refl z) h2) h3 hz0 (hg0.trans h2) h4.nxU (fun sv' e => by obtain rfl := Option.some.inj e; exact h5)
      exact ⟨v, h6, hK' _ (evH_ok heq ht hI hK hk hR1)⟩
     ·cases hk
theorem kX_ (heq : ∀ p ∈ eqs, bl_ P E p.1 p.2) (ht : tab.OK P E) {fm : Bool} {I : World → Prop} (hIx : ∀ w w', I w → Ext w w' → I w') (hfm : fm = true → ∀ {L : Nat → Option (SV E)} {H : Nat → Option (Obj E)} {nx : Nat} {a : Act} {w : World}, Rel P E Bs F0 w0 N L H nx a w → I w) {R : Type} {r : R} {all : List Oper} {tl fr : List Nat} {Q : Exit → Act → World → Prop} {b : Ba E} {k : St E → Option R}
  (hK : ∀ s' a' w', k s' = some r → Rel P E Bs F0 w0 N (s'.L b) (s'.H b) s'.nx a' w' → Q .normal a' w') : ∀ {l : List (Nat × Oper × Nat)} {s : St E} {a : Act} {w : World},
  evB P E eqs tab N fm b l s k = some r → (∀ t ∈ l, all[t.1]? = some t.2.1 ∧ (t.2.2 = 2 → t.1 ∈ tl)) → Rel P E Bs F0 w0 N (s.L b) (s.H b) s.nx a w → bV_ P all.toArray tl fr I Q (di_ l) a w
 | [], s, a, w, h, _, hR => wpMixI_nil fun X d => hK s a _ h (hR.ext ⟨X, d, rfl⟩)
 | (i, o, f) :: l, s, a, w, h, hall, hR => by
  obtain ⟨ho, htl⟩ := hall _ (List.mem_cons_self ..)
  have hall' : ∀ t ∈ l, all[t.1]? = some t.2.1 ∧ (t.2.2 = 2 → t.1 ∈ tl) := fun t ht => hall t (List.mem_cons_of_mem _ ht)
  simp only at ho htl
  unfold evB at h
  split at h
  ·cases h
  ·rename_i hgd
   simp only [di_]
   split at h
   ·rename_i hf0
    rw [hf0]
    obtain ⟨z, g, hE, hH, hfr, hz0, hg0⟩ := hR
    obtain ⟨sv, v, up, g2, hk, hgl, hgn, hv, hrun, hup⟩ := hS_ (nx := s.nx) heq hE.op (hH.less (H' := fun _ => none) fun _ _ e => by cases e) h (fun _ => True)
    simp only at hk
    split at hk
    ·cases hk
    ·obtain rfl : g2 = g := hup
     split at hk
     ·rename_i s1 hs1
      obtain ⟨hR1, _⟩ := dm_ (u := []) hs1 hE hH hz0 hg0 (fun j hj => hfr j (by simp only [nxU] at hj; omega)) (fun sv' e => by obtain rfl := Option.some.inj e; exact hv)
      refine eu_ o ho fun K hK' => ?_
      rw [if_pos (cl_ hgd _)]
      exact ⟨v, fun w' _ => by rw [hrun w' trivial]; exact ⟨rfl, rfl⟩, hK' _ (kX_ heq ht hIx hfm hK hk hall' hR1)⟩
     ·cases hk
   ·rename_i hf0
    rw [hf0]
    split at h
    ·cases h
    ·rename_i hfl
     refine nx_ o ho fun K hK' X d => ?_
     have hx : Ext w (w.ext X d) := ⟨X, d, rfl⟩
     obtain ⟨z, g, hE, hH, hfr, hz0, hg0⟩ := hR.ext hx
     refine wpList_step fun K2 hK2 => ?_
     rw [if_pos (cl_ hgd _)]
     refine jD_ heq ht hfr hE hH h fun v u x w' z2 g2 hk hz2 hg2 hE2 hH2 hf2 hv hmk => hK2 _ _ ?_
     split at hk
     ·rename_i s1 hs1
      obtain ⟨hR1, _⟩ := dm_ hs1 hE2 hH2 (hz0.trans hz2) (hg0.trans hg2) hf2 hv
      show K _ _
      refine hK' _ _ (fun hc hw => ?_) (kX_ heq ht hIx hfm hK hk hall' hR1)
      simp only [Bool.or_eq_true] at hfl
      rcases hfl with h1 | h1 | h1
      ·obtain rfl := Nat.eq_of_beq_eq_true h1
       rw [List.contains_iff_mem.2 (htl rfl)] at hc
       cases hc
      ·exact hfm h1 hR1
      ·exact hIx _ _ (hIx _ _ hw hx) (hmk h1)
     ·cases hk
theorem nW_ {hs : List Nat} : ∀ {l : List Oper} {fl : List Nat} {i : Nat} {t : Nat × Oper × Nat}, t ∈ dJ_ hs i l fl → ∃ k, t.1 = i + k ∧ l[k]? = some t.2.1 ∧ fl[k]? = some t.2.2
 | [], fl, i, t, h => by cases fl <;> simp [dJ_] at h
 | o :: l, [], i, t, h => by simp [dJ_] at h
 | o :: l, f :: fl, i, t, h => by
  have next : t ∈ dJ_ hs (i + 1) l fl → ∃ k, t.1 = i + k ∧ (o :: l)[k]? = some t.2.1 ∧ (f :: fl)[k]? = some t.2.2 := fun h => by
   obtain ⟨k, h1, h2, h3⟩ := nW_ h
   exact ⟨k + 1, by omega, by simpa using h2, by simpa using h3⟩
  simp only [dJ_] at h
  split at h
  ·exact next h
  ·rcases List.mem_cons.1 h with rfl | h
   ·exact ⟨0, rfl, rfl, rfl⟩
   ·exact next h
theorem fX_ {S : List Nat} {H : Nat → Option (Obj E)} {i : Nat} {o : Obj E} (h : eO_ S H i = some o) : i ∉ S ∧ H i = some o := by
 unfold eO_ at h
 split at h
 ·cases h
 ·rename_i hm
  exact ⟨fun hc => (by rw [memN_true.2 hc] at hm; cases hm), h⟩
theorem fY_ {S : List Nat} {H : Nat → Option (Obj E)} {i : Nat} {o : Obj E} (h : gx_ S H i = some o) : i ∈ S ∧ H i = some o := by
 unfold gx_ at h
 split at h
 ·rename_i hm
  exact ⟨memN_true.1 hm, h⟩
 ·cases h
theorem HR.ga {z : Fz} {g g' : Ga} {w : World} {H : Nat → Option (Obj E)} {F : Nat → Prop} (h : HR P E Bs F w0 w z g H) (hg : g.Le g') : HR P E Bs F w0 w z g' H :=
 ⟨h.chg, fun id o e => (h.hold id o e).keep (Fz.Le.refl z) hg fun _ _ => rfl, fun id o k e hk => h.own id o k e ((iB_ (h.hold id o e).loc hg).1 hk), fun id id' o o' k hn e e' hk hk' => h.apart id id' o o' k hn e e' ((iB_ (h.hold id o e).loc hg).1 hk) ((iB_ (h.hold id' o' e').loc hg).1 hk'), h.fz, h.fz0, fun id o k e hk => h.fza id o k e ((iB_ (h.hold id o e).loc hg).1 hk)⟩
theorem HR.part {z : Fz} {g : Ga} {w : World} {H H' : Nat → Option (Obj E)} {F : Nat → Prop} (h : HR P E Bs F w0 w z g H) (hs : ∀ i o, H' i = some o → H i = some o) {B : List Nat} (hB : ∀ i o k, H' i = some o → fpO g i o k → k ∈ B) : HR P E B z.F w w z g H' :=
 ⟨Chg.of_below (Below.refl _ _), fun i o e => h.hold i o (hs i o e), fun i o k e hk => .inr (hB i o k e hk), fun i j o p k hn e e' => h.apart i j o p k hn (hs i o e) (hs j p e'), h.fz, fun _ hk => .inl hk, fun i o k e => h.fza i o k (hs i o e)⟩
theorem gk_ {α : Type} {t : Nat} : ∀ {l m : List (Nat × α)}, aG_ t (l ++ m) = match aG_ t l with | some v => some v | none => aG_ t m
 | [], m => rfl
 | (u, x) :: l, m => by
  simp only [List.cons_append, aG_]
  cases Nat.beq t u with
  | true => rfl
  | false => exact gk_
theorem hZ_ {H : Nat → Option (Obj E)} {i : Nat} : ∀ {l : Chs E}, upH H l i = match aG_ i l with | some o => o | none => H i
 | [] => rfl
 | (k, o) :: l => by
  simp only [upH, aG_]
  cases Nat.beq i k with
  | true => rfl
  | false => exact hZ_
theorem evDraw_ok (heq : ∀ p ∈ eqs, bl_ P E p.1 p.2) (ht : tab.OK P E) {R : Type} {l : List Oper} {fl hs S : List Nat} {fm : Bool} {id : Nat} {b : Ba E} {s : St E} {k : St E → Option R} {r : R} {a : Act} {w : World} {Q : Exit → Act → World → Prop} (h : evDraw P E eqs tab N l fl hs fm S b s k = some r) (hR : Rel P E Bs F0 w0 N (s.L b) (s.H b) s.nx a w)
  (hK : ∀ s' a' w', k s' = some r → Rel P E Bs F0 w0 N (s'.L b) (s'.H b) s'.nx a' w' → Q .normal a' w') : (Code.region id l.toArray true).wp P Q a w := by
 unfold evDraw at h
 split at h
 ·cases h
 ·rename_i hchk
  simp only [Bool.and_eq_true] at hchk
  obtain ⟨hm, hB⟩ := hchk
  have hmem : ∀ t ∈ dJ_ hs (ax_ fl) (l.drop (ax_ fl)) (fl.drop (ax_ fl)), l[t.1]? = some t.2.1 ∧ (t.2.2 = 2 → t.1 ∈ tlOf 0 fl) := fun t hmem => by
   obtain ⟨k, h5, h6, h7⟩ := nW_ hmem
   rw [List.getElem?_drop] at h6 h7
   rw [← h5] at h6 h7
   refine ⟨h6, fun hf => ?_⟩
   rw [hf] at h7
   have := nV_ (n := 0) h7
   rwa [Nat.zero_add] at this
  split at h
  ·have hIx : ∀ w1 w', Ext w w1 → Ext w1 w' → Ext w w' := fun _ _ h1 h2 => h1.trans h2
   have hI : ∀ z g H, HR P E Bs F0.z.F w0 w z g H → F0.z.Le z → ∀ w', Ext w w' → Keeps P E z g H w w' := fun z g H h1 _ w' h2 => Keeps.of_ext h1 h2
   refine kT_ (I := Ext w) hIx _ _ _ hm hB (Ext.refl w) ?_
   have := fF_ (quietWalk heq ht l (tlOf 0 fl) (frOf 0 fl) (ax_ fl) (fun _ h => notFree h) w (Ext w) hI Q) _ (tl := l.drop (ax_ fl)) (J := fun a' w' => w' = w → bV_ P l.toArray (tlOf 0 fl) (frOf 0 fl) (Ext w) Q (hOrd hs ++ di_ (dJ_ hs (ax_ fl) (l.drop (ax_ fl)) (fl.drop (ax_ fl)))) a' w) h (by simp) hR trivial fun s' a' w' h1 h2 _ hw => by
    subst hw
    exact evH_ok heq ht hI (fun s2 a2 h3 h4 => kX_ heq ht hIx (fun e => by cases e) hK h3 hmem h4) h1 h2
   exact this rfl (by rw [Nat.zero_add]; exact List.length_take_le _ _) _ fun a' h1 => h1 rfl
  ·obtain ⟨z, g, hE, hH, hfr, hz0, hg0⟩ := hR
   -- the footprints of what is read, and of what is turned
   let B1 : List Nat := ((List.range s.nx).map (blk (eO_ S (s.H b)) g)).flatten
   let B2 : List Nat := (S.map (blk (gx_ S (s.H b)) g)).flatten
   have hlt : ∀ i o, s.H b i = some o → i < s.nx := fun i o e => by
    obtain ⟨l', hl⟩ := (hH.hold i o e).loc
    rcases Nat.lt_or_ge i s.nx with h5 | h5
    ·exact h5
    ·rw [hfr i h5] at hl; cases hl
   have hB1 : ∀ i o k, eO_ S (s.H b) i = some o → fpO g i o k → k ∈ B1 := fun i o k e hk => List.mem_flatten.2 ⟨_, List.mem_map.2 ⟨i, List.mem_range.2 (hlt i o (fX_ e).2), rfl⟩, mem_blk.2 ⟨o, e, hk⟩⟩
   have hB2 : ∀ i o k, gx_ S (s.H b) i = some o → fpO g i o k → k ∈ B2 := fun i o k e hk => List.mem_flatten.2 ⟨_, List.mem_map.2 ⟨i, (fY_ e).1, rfl⟩, mem_blk.2 ⟨o, e, hk⟩⟩
   have hB1' : ∀ k, k ∈ B1 → ∃ i o, eO_ S (s.H b) i = some o ∧ fpO g i o k := fun k hk => by
    obtain ⟨_, i, o, _, h5, h6⟩ := hP_ hk
    exact ⟨i, o, h5, h6⟩
   have hB2' : ∀ k, k ∈ B2 → ∃ i o, gx_ S (s.H b) i = some o ∧ fpO g i o k := fun k hk => by
    obtain ⟨_, i, o, _, h5, h6⟩ := hP_ hk
    exact ⟨i, o, h5, h6⟩
   have hB12 : ∀ k, k ∈ B1 → k ∉ B2 := fun k h1 h2 => by
    obtain ⟨i, o, h3, h4⟩ := hB1' k h1
    obtain ⟨j, p, h5, h6⟩ := hB2' k h2
    exact hH.apart i j o p k (fun e => (fX_ h3).1 (e ▸ (fY_ h5).1)) (fX_ h3).2 (fY_ h5).2 h4 h6
   have hB1w : ∀ k, k ∈ B1 → k < w.heap.size := fun k hk => by
    obtain ⟨i, o, h3, h4⟩ := hB1' k hk
    exact (hH.hold i o (fX_ h3).2).lt h4
   have hq := hH.part (fun i o e => (fX_ e).2) hB1
   let F1 : Org := ⟨z, g, F0.lo⟩
   let I : World → Prop := fun w' => z.In w' ∧ ∀ k, k ∈ B1 → w'.heap[k]? = w.heap[k]?
   have hIx : ∀ w1 w', I w1 → Ext w1 w' → I w' := fun w1 w' h1 h2 => ⟨h1.1.ext h2, fun k hk => by
    have h3 := h1.2 k hk
    have h4 : k < w1.heap.size := by
     rcases Nat.lt_or_ge k w1.heap.size with h5 | h5
     ·exact h5
     ·rw [Array.getElem?_eq_none h5, Array.getElem?_eq_getElem (hB1w k hk)] at h3; cases h3
    exact (h2.below.block k h4).trans h3⟩
   have hI : ∀ z2 g2 H2, HR P E B1 F1.z.F w w z2 g2 H2 → F1.z.Le z2 → ∀ w', I w' → Keeps P E z2 g2 H2 w w' := fun z2 g2 H2 h1 hle w' hw' => by
    have hfp : ∀ i o k, H2 i = some o → fpO g2 i o k → k ∈ B1 := fun i o k e hk => by
     rcases h1.own i o k e hk with h3 | h3
     ·have := (h1.hold i o e).lt hk
      omega
     ·exact h3
    have hin : z2.In w' := fun k hk => by
     rcases h1.fz0 k hk with h3 | h3 | h3
     ·have h4 := hw'.1 k h3
      exact ⟨h4.1, h4.2.trans (hle k h3).2.symm⟩
     ·have := (h1.fz k hk).1
      omega
     ·have h4 := hw'.2 k h3
      refine ⟨?_, h4.trans (h1.fz k hk).2⟩
      rcases Nat.lt_or_ge k w'.heap.size with h5 | h5
      ·exact h5
      ·rw [Array.getElem?_eq_none h5, Array.getElem?_eq_getElem (hB1w k h3)] at h4; cases h4
    refine ⟨⟨hin, fun i o k e hk => hw'.2 k (hfp i o k e hk)⟩, B1, z2.F, w', ⟨Chg.of_below (Below.refl _ _), fun i o e => (h1.hold i o e).keep (Fz.Le.refl z2) (Ga.Le.refl g2) fun k hk => hw'.2 k (hfp i o k e hk), fun i o k e hk => .inr (hfp i o k e hk), h1.apart, hin, fun k hk => .inl hk, h1.fza⟩⟩
   refine kT_ (I := I) hIx _ _ _ hm hB ⟨hH.fz, fun _ _ => rfl⟩ ?_
   have hR0 : Rel P E B1 F1 w N ((St.new s.nx : St E).L ⟨s.L b, eO_ S (s.H b), b.lo⟩) ((St.new s.nx : St E).H ⟨s.L b, eO_ S (s.H b), b.lo⟩) s.nx a w := ⟨z, g, hE, hq, hfr, Fz.Le.refl z, Ga.Le.refl g⟩
   have := fF_ (quietWalk (F0 := F1) (w0 := w) (Bs := B1) heq ht l (tlOf 0 fl) (frOf 0 fl) (ax_ fl) (fun _ h => notFree h) w I hI Q) _ (tl := l.drop (ax_ fl)) (J := fun a' w' => w' = w → bV_ P l.toArray (tlOf 0 fl) (frOf 0 fl) I Q (hOrd hs ++ di_ (dJ_ hs (ax_ fl) (l.drop (ax_ fl)) (fl.drop (ax_ fl)))) a' w) h (by simp) hR0 trivial fun s' a' w' h1 h2 _ hw => by
    subst hw
    refine evH_ok (F0 := F1) (w0 := w') (Bs := B1) heq ht hI (fun s2 a2 h3 h4 => ?_) h1 h2
    split at h3
    ·rename_i hvis hhvis hheap
     obtain ⟨z2, g2, hE2, hH2, hfr2, hz2, hg2⟩ := h4
     have hHq : St.H ⟨s.L b, eO_ S (s.H b), b.lo⟩ s2 = eO_ S (s.H b) := by
      unfold St.H
      rw [hheap, hhvis]
      rfl
     rw [hHq] at hH2
     have hz21 : z2.Le z := fun k hk => by
      have h5 : z.F k := by
       rcases hH2.fz0 k hk with h6 | h6 | h6
       ·exact h6
       ·have := (hH2.fz k hk).1
        omega
       ·obtain ⟨i, o, h7, h8⟩ := hB1' k h6
        exact (hH2.fza i o k h7 ((iB_ (hH.hold i o (fX_ h7).2).loc hg2).2 h8) hk).elim
      exact ⟨h5, (hz2 k h5).2.symm⟩
     have hs2 : HR P E B2 z.F w' w' z g2 (gx_ S (s.H b)) := (hH.part (fun i o e => (fY_ e).2) hB2).ga hg2
     have hR2 : Rel P E B2 ⟨z, g, F0.lo⟩ w' N ((St.new s2.nx : St E).L ⟨s2.L ⟨s.L b, eO_ S (s.H b), b.lo⟩, gx_ S (s.H b), b.lo⟩) ((St.new s2.nx : St E).H ⟨s2.L ⟨s.L b, eO_ S (s.H b), b.lo⟩, gx_ S (s.H b), b.lo⟩) s2.nx a2 w' := ⟨z, g2, hE2.le hz21 (Ga.Le.refl g2), hs2, hfr2, Fz.Le.refl z, hg2⟩
     refine kX_ (F0 := ⟨z, g, F0.lo⟩) (Bs := B2) (w0 := w') heq ht hIx (fun _ {L H nx a w1} h5 => ⟨h5.inz, fun k hk => ?_⟩) (fun s3 a3 w3 h5 h6 => ?_) h3 hmem hR2
     ·obtain ⟨_, _, _, h6, _⟩ := h5
      exact h6.chg.block k (hB1w k hk) (hB12 k hk)
     ·split at h5
      ·rename_i hv3 hh3
       refine hK _ a3 w3 h5 ?_
       obtain ⟨z3, g3, hE3, hH3, hfr3, hz3, hg3⟩ := h6
       have hH3e : St.H ⟨s2.L ⟨s.L b, eO_ S (s.H b), b.lo⟩, gx_ S (s.H b), b.lo⟩ s3 = upH (gx_ S (s.H b)) s3.heap := by
        unfold St.H
        rw [hh3]
        rfl
       rw [hH3e] at hH3
       have hHe : St.H b { s with env := s3.env ++ (s2.env ++ s.env), heap := s3.heap ++ s.heap, nx := s3.nx } = upH (s.H b) s3.heap := by
        unfold St.H
        rw [be_]
       refine ⟨z3, g3, hE3.less fun t u hu => ?_, ?_, hfr3, hz0.trans hz3, hg0.trans hg3⟩
       ·simp only [St.L] at hu ⊢
        rw [gk_, gk_] at hu
        simp only [hv3, hvis, seen]
        cases e3 : aG_ t s3.env with
        | some v => rw [e3] at hu; exact hu
        | none =>
         rw [e3] at hu
         simp only at hu ⊢
         cases e2 : aG_ t s2.env with
         | some v => rw [e2] at hu; exact hu
         | none => rw [e2] at hu; exact hu
       ·rw [hHe]
        refine hH.back (I := S) (s := fun j i => j = i) hH3 (fun k hk => ?_) hg3 (fun j o hj => ?_) (fun j j' i h7 h8 => h7.trans h8.symm) (fun j i o h7 h8 => by subst h7; exact ⟨hH3.hold _ _ h8, fun _ => Iff.rfl⟩) hz3 hH3.fz fun k hk => ?_
        ·obtain ⟨i, o, h7, h8⟩ := hB2' k hk
         exact ⟨i, o, (fY_ h7).1, (fY_ h7).2, h8⟩
        ·by_cases hjS : j ∈ S
         ·refine .inl ⟨j, rfl, ?_⟩
          rw [hZ_] at hj ⊢
          cases e4 : aG_ j s3.heap with
          | some v => rw [e4] at hj; exact hj
          | none =>
           rw [e4] at hj
           simp only at hj ⊢
           unfold gx_
           rw [memN_true.2 hjS]
           exact hj
         ·rw [hZ_] at hj
          cases e4 : aG_ j s3.heap with
          | some v =>
           rw [e4] at hj
           refine .inl ⟨j, rfl, ?_⟩
           rw [hZ_, e4]
           exact hj
          | none =>
           rw [e4] at hj
           exact .inr ⟨hjS, hj⟩
        ·rcases hH3.fz0 k hk with h7 | h7 | h7
         ·exact .inl h7
         ·exact .inr ⟨.inl h7, hk⟩
         ·exact .inr ⟨.inr h7, hk⟩
      ·cases h5
    ·cases h3
   exact this rfl (by rw [Nat.zero_add]; exact List.length_take_le _ _) _ fun a' h1 => h1 rfl
end Rt
end Go
namespace Go
namespace Rt
open Go.RowKit
variable {P : Program} {E : TE} {eqs : List (Nat × Nat)} {tab : Tab E} {N : Nat} {Bs : List Nat} {F0 : Org} {w0 : World}
structure Apart1 (w0 : World) (z : Fz) (g : Ga) (H : Nat → Option (Obj E)) (w : World) (q : Nat) (o : Go.Obj) : Prop where
 at_ : w.heap[q]? = some o
 new : w0.heap.size ≤ q
 fp : ∀ id p k, H id = some p → fpO g id p k → k ≠ q
 fz : ¬ z.F q
def RelF (P : Program) (E : TE) (Bs : List Nat) (F0 : Org) (w0 : World) (N : Nat) (d q : Nat) (o : Go.Obj) (L : Nat → Option (SV E)) (H : Nat → Option (Obj E)) (nx : Nat) (a : Act) (w : World) : Prop :=
 ∃ z g, ER P E z g N a L ∧ HR P E Bs F0.z.F w0 w z g H ∧ Fresh g nx ∧ F0.z.Le z ∧ F0.g.Le g ∧ Apart1 w0 z g H w q o ∧ a.tmps[d]? = some (.pointer (some ⟨q, 0, none⟩))
theorem Apart1.ext {z : Fz} {g : Ga} {H : Nat → Option (Obj E)} {w w' : World} {q : Nat} {o : Go.Obj} (h : Apart1 w0 z g H w q o) (hx : Ext w w') : Apart1 w0 z g H w' q o := by
 have hlt : q < w.heap.size := (Array.getElem?_eq_some_iff.1 h.at_).1
 exact ⟨(hx.below.block q hlt).trans h.at_, h.new, h.fp, h.fz⟩
theorem RelF.ext {d q : Nat} {o : Go.Obj} {L : Nat → Option (SV E)} {H : Nat → Option (Obj E)} {nx : Nat} {a : Act} {w w' : World} (h : RelF P E Bs F0 w0 N d q o L H nx a w) (hx : Ext w w') : RelF P E Bs F0 w0 N d q o L H nx a w' :=
 let ⟨z, g, h1, h2, h3, h4, h5, h6, h7⟩ := h
 ⟨z, g, h1, h2.ext hx, h3, h4, h5, h6.ext hx, h7⟩
theorem evOp_frame (heq : ∀ p ∈ eqs, bl_ P E p.1 p.2) (ht : tab.OK P E) {R : Type} {r : R} {z : Fz} {g : Ga} {L : Nat → Option (SV E)} {H : Nat → Option (Obj E)} {nx : Nat} {a : Act} {w : World} {o : Oper} {K : Act → World → Prop} {Q : Exit → Act → World → Prop} {k : Option (SV E) → Chs E → Option R} {q : Nat} {ob : Go.Obj}
  (hnx : Fresh g nx) (hE : ER P E z g N a L) (hH : HR P E Bs F0.z.F w0 w z g H) (hap : Apart1 w0 z g H w q ob) (h : evOp P E eqs tab L H nx o k = some r)
  (hK : ∀ s u v w' z2 g2, k s u = some r → z.Le z2 → g.Le g2 → ER P E z2 g2 N a L → HR P E Bs F0.z.F w0 w' z2 g2 (upH H u) → Fresh g2 (nxU nx u) → (∀ sv, s = some sv → RV P E z2 g2 sv v) → (hh_ tab L o = true → Ext w w') → Apart1 w0 z2 g2 (upH H u) w' q ob → K (a.put o.dst v) w') : o.wp P a w K Q := by
 have hlt : ∀ i p, H i = some p → i < nx := fun i p e => by
  obtain ⟨l', hl⟩ := (hH.hold i p e).loc
  rcases Nat.lt_or_ge i nx with h5 | h5
  ·exact h5
  ·rw [hnx i h5] at hl; cases hl
 let B : List Nat := ((List.range nx).map (blk H g)).flatten
 have hB : ∀ i p k, H i = some p → fpO g i p k → k ∈ B := fun i p k e hk => List.mem_flatten.2 ⟨_, List.mem_map.2 ⟨i, List.mem_range.2 (hlt i p e), rfl⟩, mem_blk.2 ⟨p, e, hk⟩⟩
 have hB' : ∀ k, k ∈ B → ∃ i p, i ∈ List.range nx ∧ H i = some p ∧ fpO g i p k := fun k hk => by
  obtain ⟨_, i, p, h4, h5, h6⟩ := hP_ hk
  exact ⟨i, p, List.mem_range.2 (hlt i p h5), h5, h6⟩
 have hqB : q ∉ B := fun hq => by
  obtain ⟨i, p, _, h5, h6⟩ := hB' q hq
  exact hap.fp i p q h5 h6 rfl
 have hqlt : q < w.heap.size := (Array.getElem?_eq_some_iff.1 hap.at_).1
 have hp := hH.part (fun _ _ e => e) hB
 refine jD_ (Bs := B) (F0 := z.F) (w0 := w) heq ht hnx hE hp h fun s u v w' z2 g2 hk hz2 hg2 hE2 hH2 hf2 hv hmk => ?_
 refine hK s u v w' z2 g2 hk hz2 hg2 hE2 ?_ hf2 hv hmk ⟨?_, hap.new, fun id p k he hfp => ?_, fun hz => ?_⟩
 ·refine hH.back (I := List.range nx) (s := fun j i => j = i) hH2 (fun k hk => ?_) hg2 (fun j p hj => .inl ⟨j, rfl, hj⟩) (fun j j' i h7 h8 => h7.trans h8.symm) (fun j i p h7 h8 => by subst h7; exact ⟨hH2.hold _ _ h8, fun _ => Iff.rfl⟩) hz2 hH2.fz fun k hk => ?_
  ·exact hB' k hk
  ·rcases hH2.fz0 k hk with h7 | h7 | h7
   ·exact .inl h7
   ·exact .inr ⟨.inl h7, hk⟩
   ·exact .inr ⟨.inr h7, hk⟩
 ·exact (hH2.chg.block q hqlt hqB).trans hap.at_
 ·rcases hH2.own id p k he hfp with h7 | h7
  ·omega
  ·intro e; subst e; exact hqB h7
 ·rcases hH2.fz0 q hz with h7 | h7 | h7
  ·exact hap.fz h7
  ·omega
  ·exact hqB h7
theorem HR.adopt {z : Fz} {g : Ga} {H : Nat → Option (Obj E)} {F : Nat → Prop} {w : World} {q n : Nat} {T : TypeId} {cs : List (SC E)} {vs : List Value} (hH : HR P E Bs F w0 w z g H) (hn : g n = none) (hap : Apart1 w0 z g H w q (.cells vs.toArray T (0, 0))) (hcs : All2 (RC P E z g) cs vs) :
  HR P E Bs F w0 w z (g.put n ⟨none, 0, 0, 0, q, 0⟩) (upH H [(n, some (.box T cs))]) := by
 have hle := Ga.le_put (l := ⟨none, 0, 0, 0, q, 0⟩) hn
 have hG := hH.ga hle
 have hself := Ga.put_self g n ⟨none, 0, 0, 0, q, 0⟩
 have hfp : ∀ k, fpO (g.put n ⟨none, 0, 0, 0, q, 0⟩) n (Obj.box T cs : Obj E) k → k = q := fun k hk => by
  obtain ⟨l, h1, h2⟩ := hk
  rw [hself] at h1; obtain rfl := Option.some.inj h1
  exact h2
 have hold : ∀ j p k, H j = some p → fpO (g.put n ⟨none, 0, 0, 0, q, 0⟩) j p k → k ≠ q := fun j p k e hk => hap.fp j p k e ((iB_ (hH.hold j p e).loc hle).1 hk)
 refine ⟨hG.chg, fun j p e => ?_, fun j p k e hk => ?_, fun j j' p p' k hj e e' hk hk' => ?_, hG.fz, hG.fz0, fun j p k e hk hz => ?_⟩
 ·rcases cy_ e with ⟨rfl, rfl⟩ | ⟨_, h2⟩
  ·exact ⟨_, vs, hself, hap.at_, hcs.mono fun _ _ h => RC.le h (Fz.Le.refl z) hle⟩
  ·exact hG.hold j p h2
 ·rcases cy_ e with ⟨rfl, rfl⟩ | ⟨_, h2⟩
  ·rw [hfp k hk]; exact .inl hap.new
  ·exact hG.own j p k h2 hk
 ·rcases cy_ e with ⟨rfl, rfl⟩ | ⟨_, h2⟩ <;> rcases cy_ e' with ⟨rfl, rfl⟩ | ⟨_, h2'⟩
  ·exact hj rfl
  ·exact hold j' p' k h2' hk' (hfp k hk)
  ·exact hold j p k h2 hk (hfp k hk')
  ·exact hG.apart j j' p p' k hj h2 h2' hk hk'
 ·rcases cy_ e with ⟨rfl, rfl⟩ | ⟨_, h2⟩
  ·rw [hfp k hk] at hz; exact hap.fz hz
  ·exact hG.fza j p k h2 hk hz
theorem put_same {a : Act} {d : Nat} {v : Value} (h : a.tmps[d]? = some v) : a.put (some d) v = a := by
 unfold Act.put
 have : a.tmps.setIfInBounds d v = a.tmps := by
  apply Array.ext_getElem?
  intro i
  rw [Array.getElem?_setIfInBounds]
  split
  ·rename_i hi; subst hi
   split
   ·exact h.symm
   ·rename_i hlt; rw [Array.getElem?_eq_none (by omega)]
  ·rfl
 simp only [this]
theorem put_other {a : Act} {d : Nat} {o : Oper} {v u : Value} (h : a.tmps[d]? = some v) (hd : o.dst ≠ some d) : (a.put o.dst u).tmps[d]? = some v := by
 unfold Act.put
 split
 ·rename_i e he
  rw [Array.getElem?_setIfInBounds]
  split
  ·rename_i hi; subst hi; exact absurd he hd
  ·exact h
 ·exact h
theorem lu_ {d : Nat} : ∀ {l : List (Nat × Oper × Nat)}, aA_ d (dstsT l) = false → ∀ t ∈ l, t.2.1.dst ≠ some d
 | [], _, _, h => by cases h
 | t0 :: l, hm, t, h => by
  simp only [dstsT] at hm
  cases hd : t0.2.1.dst with
  | none =>
   rw [hd] at hm
   rcases List.mem_cons.1 h with rfl | h
   ·rw [hd]; exact fun e => nomatch e
   ·exact lu_ hm t h
  | some d' =>
   rw [hd] at hm
   simp only [aA_] at hm
   have hne : Nat.beq d d' = false := by
    cases hb : Nat.beq d d' with
    | true => rw [hb] at hm; cases hm
    | false => rfl
   rw [hne] at hm
   rcases List.mem_cons.1 h with rfl | h
   ·rw [hd]; intro e; obtain rfl := Option.some.inj e; exact cO_ hne rfl
   ·exact lu_ hm t h
theorem after_okF {b : Ba E} {s s1 : St E} {o : Oper} {v : Option (SV E)} {u : Chs E} {a : Act} {w' : World} {x : Value} {z : Fz} {g : Ga} {d q : Nat} {ob : Go.Obj} (h : s.after N o v u = some s1) (hE : ER P E z g N a (s.L b)) (hH : HR P E Bs F0.z.F w0 w' z g (upH (s.H b) u)) (hz0 : F0.z.Le z) (hg0 : F0.g.Le g) (hf : Fresh g (nxU s.nx u)) (hv : ∀ sv, v = some sv → RV P E z g sv x)
  (hap : Apart1 w0 z g (upH (s.H b) u) w' q ob) (hd : (a.put o.dst x).tmps[d]? = some (.pointer (some ⟨q, 0, none⟩))) : RelF P E Bs F0 w0 N d q ob (s1.L b) (s1.H b) s1.nx (a.put o.dst x) w' := by
 obtain ⟨⟨h1, h2, h3, h4⟩, _⟩ := after_ok2 h hE hH hf hv
 exact ⟨z, g, h1, h2, h3, hz0, hg0, by rw [h4]; exact hap, hd⟩
theorem mq_ (heq : ∀ p ∈ eqs, bl_ P E p.1 p.2) (ht : tab.OK P E) {I : World → Prop} (hIx : ∀ w w', I w → Ext w w' → I w') {R : Type} {r : R} {all : List Oper} {tl fr : List Nat} {Q : Exit → Act → World → Prop} {b : Ba E} {k : St E → Option R}
  (hK : ∀ s' a' w', k s' = some r → Rel P E Bs F0 w0 N (s'.L b) (s'.H b) s'.nx a' w' → Q .normal a' w') {fi d T : Nat} {fo : Oper} {post : List (Nat × Oper × Nat)} {zs : List Value} {q : Nat} (hfa : fo.op = .alloc T) (hfg : fo.guard = none) (hfd : fo.dst = some d) (hz : dX_ P T = some zs) (hpost : ∀ t ∈ post, all[t.1]? = some t.2.1 ∧ (t.2.2 = 2 → t.1 ∈ tl)) : ∀ {pre : List (Nat × Oper × Nat)} {s : St E} {a : Act} {w : World},
  evB P E eqs tab N false b (pre ++ (fi, fo, 1) :: post) s k = some r → (∀ t ∈ pre, all[t.1]? = some t.2.1 ∧ (t.2.2 = 2 → t.1 ∈ tl)) → (∀ t ∈ pre, t.2.1.dst ≠ some d) → RelF P E Bs F0 w0 N d q (.cells zs.toArray T (0, 0)) (s.L b) (s.H b) s.nx a w → bV_ P all.toArray tl fr I Q (di_ pre ++ di_ post) a w
 | [], s, a, w, h, _, _, hR => by
  obtain ⟨z, g, hE, hH, hfr, hz0, hg0, hap, hd⟩ := hR
  rw [List.nil_append] at h
  unfold evB at h
  simp only [hfg] at h
  have hq1 : quietM 1 = false := rfl
  rw [hq1] at h
  simp only at h
  split at h
  ·cases h
  ·unfold evOp at h
   simp only [hfa] at h
   unfold lAlloc at h
   split at h
   ·rename_i cs hcs
    obtain ⟨zs', hz', hrel⟩ := lf_ (z := z) (g := g) hcs
    rw [hz] at hz'
    obtain rfl := Option.some.inj hz'
    simp only at h
    split at h
    ·rename_i s1 hs1
     have hA := hH.adopt hfr.self hap hrel
     have hle := Ga.le_put (l := ⟨none, 0, 0, 0, q, 0⟩) hfr.self
     obtain ⟨hR1, _⟩ := dm_ (F0 := F0) (x := .pointer (some ⟨q, 0, none⟩)) hs1 (hE.le (Fz.Le.refl z) hle) hA hz0 (hg0.trans hle) (Fresh.nxU fun i hi => by
      have := hfr.put (⟨none, 0, 0, 0, q, 0⟩ : Loc) i (by simp at hi; omega)
      exact this) (fun sv e => by obtain rfl := Option.some.inj e; exact ⟨_, Ga.put_self _ _ _, rfl⟩)
     rw [hfd, put_same hd] at hR1
     exact kX_ (fm := false) heq ht hIx (fun e => by cases e) hK h hpost hR1
    ·cases h
   ·cases h
 | (i, o, f) :: pre, s, a, w, h, hall, hds, hR => by
  obtain ⟨ho, htl⟩ := hall _ (List.mem_cons_self ..)
  have hall' : ∀ t ∈ pre, all[t.1]? = some t.2.1 ∧ (t.2.2 = 2 → t.1 ∈ tl) := fun t ht => hall t (List.mem_cons_of_mem _ ht)
  have hds' : ∀ t ∈ pre, t.2.1.dst ≠ some d := fun t ht => hds t (List.mem_cons_of_mem _ ht)
  have hod : o.dst ≠ some d := hds _ (List.mem_cons_self ..)
  simp only at ho htl
  rw [List.cons_append] at h
  unfold evB at h
  split at h
  ·cases h
  ·rename_i hgd
   simp only [di_, List.cons_append]
   split at h
   ·rename_i hf0
    rw [hf0]
    obtain ⟨z, g, hE, hH, hfr, hz0, hg0, hap, hd⟩ := hR
    obtain ⟨sv, v, up, g2, hk, hgl, hgn, hv, hrun, hup⟩ := hS_ (nx := s.nx) heq hE.op (hH.less (H' := fun _ => none) fun _ _ e => by cases e) h (fun _ => True)
    simp only at hk
    split at hk
    ·cases hk
    ·obtain rfl : g2 = g := hup
     split at hk
     ·rename_i s1 hs1
      have hR1 := after_okF (u := []) hs1 hE hH hz0 hg0 (fun j hj => hfr j (by simp only [nxU] at hj; omega)) (fun sv' e => by obtain rfl := Option.some.inj e; exact hv) hap (put_other hd hod)
      refine eu_ o ho fun K hK' => ?_
      rw [if_pos (cl_ hgd _)]
      exact ⟨v, fun w' _ => by rw [hrun w' trivial]; exact ⟨rfl, rfl⟩, hK' _ (mq_ heq ht hIx hK hfa hfg hfd hz hpost hk hall' hds' hR1)⟩
     ·cases hk
   ·rename_i hf0
    rw [hf0]
    split at h
    ·cases h
    ·rename_i hfl
     refine nx_ o ho fun K hK' X e => ?_
     have hx : Ext w (w.ext X e) := ⟨X, e, rfl⟩
     obtain ⟨z, g, hE, hH, hfr, hz0, hg0, hap, hd⟩ := hR.ext hx
     refine wpList_step fun K2 hK2 => ?_
     rw [if_pos (cl_ hgd _)]
     refine evOp_frame heq ht hfr hE hH hap h fun v u x w' z2 g2 hk hz2 hg2 hE2 hH2 hf2 hv hmk hap2 => hK2 _ _ ?_
     split at hk
     ·rename_i s1 hs1
      have hR1 := after_okF hs1 hE2 hH2 (hz0.trans hz2) (hg0.trans hg2) hf2 hv hap2 (put_other hd hod)
      show K _ _
      refine hK' _ _ (fun hc hw => ?_) (mq_ heq ht hIx hK hfa hfg hfd hz hpost hk hall' hds' hR1)
      simp only [Bool.or_eq_true, Bool.false_eq_true, false_or] at hfl
      rcases hfl with h1 | h1
      ·obtain rfl := Nat.eq_of_beq_eq_true h1
       rw [List.contains_iff_mem.2 (htl rfl)] at hc
       cases hc
      ·exact hIx _ _ (hIx _ _ hw hx) (hmk h1)
     ·cases hk
theorem mr_ (heq : ∀ p ∈ eqs, bl_ P E p.1 p.2) (ht : tab.OK P E) {I : World → Prop} (hIx : ∀ w w', I w → Ext w w' → I w') {R : Type} {r : R} {all : List Oper} {tl fr : List Nat} {Q : Exit → Act → World → Prop} {b : Ba E} {k : St E → Option R}
  (hK : ∀ s' a' w', k s' = some r → Rel P E Bs F0 w0 N (s'.L b) (s'.H b) s'.nx a' w' → Q .normal a' w') {fi d T : Nat} {fo : Oper} {post : List (Nat × Oper × Nat)} (hfi : all[fi]? = some fo) (hfa : fo.op = .alloc T) (hfg : fo.guard = none) (hfd : fo.dst = some d) (hpost : ∀ t ∈ post, all[t.1]? = some t.2.1 ∧ (t.2.2 = 2 → t.1 ∈ tl)) : ∀ {pre : List (Nat × Oper × Nat)} {s : St E} {a : Act} {w : World},
  evB P E eqs tab N false b (pre ++ (fi, fo, 1) :: post) s k = some r → (∀ t ∈ pre, all[t.1]? = some t.2.1 ∧ (t.2.2 = 2 → t.1 ∈ tl)) → (∀ t ∈ pre, t.2.1.dst ≠ some d) → s.L b d = none → Nat.blt d N = true → (∃ zs, dX_ P T = some zs) → Rel P E Bs F0 w0 N (s.L b) (s.H b) s.nx a w → cU_ P all.toArray tl fr I Q fi (di_ post) (di_ pre) a w
 | [], s, a, w, h, _, _, _, _, _, hR => by
  rw [List.nil_append] at h
  exact kX_ (fm := false) heq ht hIx (fun e => by cases e) hK (l := (fi, fo, 1) :: post) h (fun t ht => by
   rcases List.mem_cons.1 ht with rfl | ht
   ·exact ⟨hfi, fun e => nomatch e⟩
   ·exact hpost t ht) hR
 | (i, o, f) :: pre, s, a, w, h, hall, hds, hLd, hdN, hzs, hR => by
  obtain ⟨ho, htl⟩ := hall _ (List.mem_cons_self ..)
  have hall' : ∀ t ∈ pre, all[t.1]? = some t.2.1 ∧ (t.2.2 = 2 → t.1 ∈ tl) := fun t ht => hall t (List.mem_cons_of_mem _ ht)
  have hds' : ∀ t ∈ pre, t.2.1.dst ≠ some d := fun t ht => hds t (List.mem_cons_of_mem _ ht)
  have hod : o.dst ≠ some d := hds _ (List.mem_cons_self ..)
  have hfull := h
  simp only at ho htl
  rw [List.cons_append] at h
  unfold evB at h
  split at h
  ·cases h
  ·rename_i hgd
   simp only [di_]
   split at h
   ·rename_i hf0
    rw [hf0]
    obtain ⟨z, g, hE, hH, hfr, hz0, hg0⟩ := hR
    obtain ⟨sv, v, up, g2, hk, hgl, hgn, hv, hrun, hup⟩ := hS_ (nx := s.nx) heq hE.op (hH.less (H' := fun _ => none) fun _ _ e => by cases e) h (fun _ => True)
    simp only at hk
    split at hk
    ·cases hk
    ·obtain rfl : g2 = g := hup
     split at hk
     ·rename_i s1 hs1
      obtain ⟨hR1, hL1⟩ := dm_ (u := []) hs1 hE hH hz0 hg0 (fun j hj => hfr j (by simp only [nxU] at hj; omega)) (fun sv' e => by obtain rfl := Option.some.inj e; exact hv)
      refine fD_ o ho fun K hK' => ?_
      rw [if_pos (cl_ hgd _)]
      exact ⟨v, fun w' _ => by rw [hrun w' trivial]; exact ⟨rfl, rfl⟩, hK' _ (mr_ heq ht hIx hK hfi hfa hfg hfd hpost hk hall' hds' ((hL1 d fun d' e => by rw [e] at hod; exact fun h => hod (by rw [h])).trans hLd) hdN hzs hR1)⟩
     ·cases hk
   ·rename_i hf0
    rw [hf0]
    split at h
    ·cases h
    ·rename_i hfl
     refine wpMixF_loud o fo ho hfi (fun K hK' X e => ?_) fun K hK' X e => ?_
     ·have hx : Ext w (w.ext X e) := ⟨X, e, rfl⟩
      obtain ⟨z, g, hE, hH, hfr, hz0, hg0⟩ := hR.ext hx
      refine wpList_step fun K2 hK2 => ?_
      rw [if_pos (cl_ hgd _)]
      refine jD_ heq ht hfr hE hH h fun v u x w' z2 g2 hk hz2 hg2 hE2 hH2 hf2 hv hmk => hK2 _ _ ?_
      split at hk
      ·rename_i s1 hs1
       obtain ⟨hR1, hL1⟩ := dm_ hs1 hE2 hH2 (hz0.trans hz2) (hg0.trans hg2) hf2 hv
       show K _ _
       refine hK' _ _ (fun hc hw => ?_) (mr_ heq ht hIx hK hfi hfa hfg hfd hpost hk hall' hds' ((hL1 d fun d' e => by rw [e] at hod; exact fun h => hod (by rw [h])).trans hLd) hdN hzs hR1)
       simp only [Bool.or_eq_true, Bool.false_eq_true, false_or] at hfl
       rcases hfl with h1 | h1
       ·obtain rfl := Nat.eq_of_beq_eq_true h1
        rw [List.contains_iff_mem.2 (htl rfl)] at hc
        cases hc
       ·exact hIx _ _ (hIx _ _ hw hx) (hmk h1)
      ·cases hk
     ·have hx : Ext w (w.ext X e) := ⟨X, e, rfl⟩
      obtain ⟨zs, hz⟩ := hzs
      obtain ⟨z, g, hE, hH, hfr, hz0, hg0⟩ := hR.ext hx
      refine wpList_step fun K2 hK2 => ?_
      rw [if_pos (cl_ hfg _)]
      unfold Oper.wp
      rw [run_alloc hfa hz]
      simp only [Oper.upon]
      rw [hfd]
      refine hK2 _ _ ?_
      show K _ _
      generalize hw1 : w.ext X e = w1 at hE hH hx
      have hx2 : Ext w1 (w1.alloc (.cells zs.toArray T)) := Ext.one w1 _
      have hb : bV_ P all.toArray tl fr I Q (di_ ((i, o, f) :: pre) ++ di_ post) (a.put (some d) (.pointer (some ⟨w1.heap.size, 0, none⟩))) (w1.alloc (.cells zs.toArray T)) := by
       refine mq_ (q := w1.heap.size) heq ht hIx hK hfa hfg hfd hz hpost hfull hall hds ?_
       refine ⟨z, g, hE.del (fun t u hu => ⟨fun e => ?_, hu⟩), hH.ext hx2, hfr, hz0, hg0, ⟨?_, hH.size, fun id p k he hfp => ?_, fun hzq => ?_⟩, ?_⟩
       ·subst e; rw [hLd] at hu; cases hu
       ·show (w1.heap.push _)[w1.heap.size]? = _
        simp
       ·have := (hH.hold id p he).lt hfp; omega
       ·have := (hH.fz _ hzq).1; omega
       ·unfold Act.put
        have : d < a.tmps.size := by rw [hE.size]; exact Nat.le_of_ble_eq_true hdN
        simp [this]
      simp only [di_, hf0, Bool.not_false] at hb
      exact hK' _ _ (fun _ hw => hIx _ _ (hIx _ _ hw hx) hx2) hb
def quietWalkF (heq : ∀ p ∈ eqs, bl_ P E p.1 p.2) (ht : tab.OK P E) (all : List Oper) (tl fr : List Nat) (m : Nat) (hm : ∀ i, i < m → fr.contains i = false) (W : World) (I : World → Prop) (hI : ∀ z g H, HR P E Bs F0.z.F w0 W z g H → F0.z.Le z → ∀ w', I w' → Keeps P E z g H W w') (Q : Exit → Act → World → Prop) (fi : Nat) (post : List (Nat × Bool)) : Walk P E (fun L H nx o _ k => hi_ P E eqs tab L H nx o k) N Bs F0 w0 all where
 W J l i a w := w = W → i + l.length ≤ m → ∀ rest : List (Nat × Bool), (∀ a', J a' W → cU_ P all.toArray tl fr I Q fi post rest a' W) → cU_ P all.toArray tl fr I Q fi post (ec_ i l ++ rest) a W
 nil hJ := fun e _ rest h => h _ (e ▸ hJ)
 app h1 h2 := fun e hle rest h => by
  rw [in_, List.append_assoc]
  rw [List.length_append] at hle
  exact h1 e (by omega) _ fun a' hJ => h2 a' W hJ rfl (by omega) rest h
 skip {J o l i a w} ho hw h1 := fun e hle rest h => by
  simp only [List.length_cons] at hle
  simp only [ec_, List.cons_append]
  refine fD_ o ho fun K hK => ?_
  rw [if_neg (by rw [hw]; exact Bool.false_ne_true)]
  exact hK _ (h1 e (by omega) rest h)
 step {J o l i a w R L H nx z g k r} ho hw hE hH hf hz hg hev hk := fun e hle rest h => by
  simp only [List.length_cons] at hle
  subst e
  simp only [ec_, List.cons_append]
  refine fD_ o ho fun K hK => ?_
  rw [if_pos hw, hm i (by omega)]
  obtain ⟨s, u, v, g2, h1, h2, h3, h4, h5, h6⟩ := jF_ heq ht hf hE hH (hI z g H hH hz) hev
  refine ⟨v, h6, hK _ ?_⟩
  exact hk (some s) u v w z g2 h1 (Fz.Le.refl z) h2 (hE.le (Fz.Le.refl z) h2) h3 h4.nxU (fun sv hsv => by obtain rfl := Option.some.inj hsv; exact h5) rfl (by omega) rest h
 pick {J o l i a w v} ho hw hr h1 := fun e hle rest h => by
  simp only [List.length_cons] at hle
  simp only [ec_, List.cons_append]
  refine fD_ o ho fun K hK => ?_
  rw [if_pos hw]
  exact ⟨v, fun w' _ => by rw [hr]; exact ⟨rfl, rfl⟩, hK _ (h1 e (by omega) rest h)⟩
theorem evH_okF (heq : ∀ p ∈ eqs, bl_ P E p.1 p.2) (ht : tab.OK P E) {W : World} {I : World → Prop} (hI : ∀ z g H, HR P E Bs F0.z.F w0 W z g H → F0.z.Le z → ∀ w', I w' → Keeps P E z g H W w') {R : Type} {r : R} {all : List Oper} {tl fr : List Nat} {Q : Exit → Act → World → Prop} {b : Ba E} {k : St E → Option R} {fi : Nat} {post rest : List (Nat × Bool)}
  (hK : ∀ s' a', k s' = some r → Rel P E Bs F0 w0 N (s'.L b) (s'.H b) s'.nx a' W → cU_ P all.toArray tl fr I Q fi post rest a' W) : ∀ {hs : List Nat} {s : St E} {a : Act},
  evH P E eqs tab N b all fr hs s k = some r → Rel P E Bs F0 w0 N (s.L b) (s.H b) s.nx a W → cU_ P all.toArray tl fr I Q fi post (hOrd hs ++ rest) a W
 | [], s, a, h, hR => hK s a h hR
 | i :: hs, s, a, h, hR => by
  unfold evH at h
  split at h
  ·cases h
  ·rename_i o ho
   split at h
   ·cases h
   ·rename_i hgd
    obtain ⟨z, g, hE, hH, hfr, hz0, hg0⟩ := hR
    simp only [hOrd, List.cons_append]
    refine fD_ o ho fun K hK' => ?_
    rw [if_pos (cl_ hgd _)]
    split at h
    ·rename_i hc
     rw [hc]
     obtain ⟨sv, v, up, g2, hk, hgl, hgn, hv, hrun, hup⟩ := hS_ (nx := s.nx) heq hE.op (hH.less (H' := fun _ => none) fun _ _ e => by cases e) h (fun _ => True)
     simp only at hk
     split at hk
     ·cases hk
     ·obtain rfl : g2 = g := hup
      split at hk
      ·rename_i s1 hs1
       obtain ⟨hR1, _⟩ := dm_ (u := []) hs1 hE hH hz0 hg0 (fun j hj => hfr j (by simp only [nxU] at hj; omega)) (fun sv' e => by obtain rfl := Option.some.inj e; exact hv)
       exact ⟨v, fun w' _ => by rw [hrun w' trivial]; exact ⟨rfl, rfl⟩, hK' _ (evH_okF heq ht hI hK hk hR1)⟩
      ·cases hk
    ·rename_i hc
     rw [hc]
     obtain ⟨sv, u, v, g2, hk, h2, h3, h4, h5, h6⟩ := jF_ heq ht hfr hE hH (hI z g _ hH hz0) h
     simp only at hk
     split at hk
     ·rename_i s1 hs1
      obtain ⟨hR1, _⟩ := dm_ hs1 (hE.le (Fz.Le.refl z) h2) h3 hz0 (hg0.trans h2) h4.nxU (fun sv' e => by obtain rfl := Option.some.inj e; exact h5)
      exact ⟨v, h6, hK' _ (evH_okF heq ht hI hK hk hR1)⟩
     ·cases hk
theorem evFloat_ok (heq : ∀ p ∈ eqs, bl_ P E p.1 p.2) (ht : tab.OK P E) {R : Type} {l : List Oper} {fl hs : List Nat} {p : Nat} {id : Nat} {b : Ba E} {s : St E} {k : St E → Option R} {r : R} {a : Act} {w : World} {Q : Exit → Act → World → Prop} (h : evFloat P E eqs tab N l fl hs p b s k = some r) (hR : Rel P E Bs F0 w0 N (s.L b) (s.H b) s.nx a w)
  (hK : ∀ s' a' w', k s' = some r → Rel P E Bs F0 w0 N (s'.L b) (s'.H b) s'.nx a' w' → Q .normal a' w') : (Code.region id l.toArray true).wp P Q a w := by
 unfold evFloat at h
 split at h
 ·cases h
 ·rename_i t ht0
  obtain ⟨fi, fo, f1⟩ := t
  split at h
  ·cases h
  ·rename_i hchk
   simp only [Bool.and_eq_true] at hchk
   obtain ⟨⟨hm, hfb, hf1⟩, hB⟩ := hchk
   obtain rfl := Nat.eq_of_beq_eq_true hf1
   have hmem : ∀ t ∈ dJ_ hs (ax_ fl) (l.drop (ax_ fl)) (fl.drop (ax_ fl)), l[t.1]? = some t.2.1 ∧ (t.2.2 = 2 → t.1 ∈ tlOf 0 fl) := fun t hmem => by
    obtain ⟨k, h5, h6, h7⟩ := nW_ hmem
    rw [List.getElem?_drop] at h6 h7
    rw [← h5] at h6 h7
    refine ⟨h6, fun hf => ?_⟩
    rw [hf] at h7
    have := nV_ (n := 0) h7
    rwa [Nat.zero_add] at this
   have hfi := (hmem _ (List.mem_of_getElem? ht0)).1
   unfold floatB at hfb
   simp only at hfb hfi hB h
   split at hfb
   ·rename_i T d hfa hfg hfd
    simp only [Bool.and_eq_true, Bool.not_eq_true'] at hfb
    obtain ⟨hds, hdN, hzb⟩ := hfb
    have hzs : ∃ zs, dX_ P T = some zs := by
     split at hzb
     ·rename_i zs hz; exact ⟨zs, hz⟩
     ·cases hzb
    have hdst : dstN fo = d := by unfold dstN; rw [hfd]
    rw [hdst] at h
    have hIx : ∀ w1 w', Ext w w1 → Ext w1 w' → Ext w w' := fun _ _ h1 h2 => h1.trans h2
    have hI : ∀ z g H, HR P E Bs F0.z.F w0 w z g H → F0.z.Le z → ∀ w', Ext w w' → Keeps P E z g H w w' := fun z g H h1 _ w' h2 => Keeps.of_ext h1 h2
    refine p6_ (I := Ext w) hIx _ _ _ _ hm hB (Ext.refl w) ?_
    have := fF_ (quietWalkF heq ht l (tlOf 0 fl) (frOf 0 fl) (ax_ fl) (fun _ h => notFree h) w (Ext w) hI Q fi (di_ ((dJ_ hs (ax_ fl) (l.drop (ax_ fl)) (fl.drop (ax_ fl))).drop (p + 1)))) _ (tl := l.drop (ax_ fl)) (J := fun a' w' => w' = w → cU_ P l.toArray (tlOf 0 fl) (frOf 0 fl) (Ext w) Q fi (di_ ((dJ_ hs (ax_ fl) (l.drop (ax_ fl)) (fl.drop (ax_ fl))).drop (p + 1))) (hOrd hs ++ di_ ((dJ_ hs (ax_ fl) (l.drop (ax_ fl)) (fl.drop (ax_ fl))).take p)) a' w') h (by simp) hR trivial fun s' a' w' h1 h2 _ hw => by
     subst hw
     refine evH_okF heq ht hI (fun s2 a2 h3 h4 => ?_) h1 h2
     have hL : (({ s2 with env := (d, none) :: s2.env } : St E).L b) d = none := by
      simp only [St.L, aG_, Nat.beq_refl]
     have hR2 : Rel P E Bs F0 w0 N (({ s2 with env := (d, none) :: s2.env } : St E).L b) (({ s2 with env := (d, none) :: s2.env } : St E).H b) s2.nx a2 w' := by
      obtain ⟨z, g, hE, hH, hrest⟩ := h4
      exact ⟨z, g, hE.less fun t u hu => (by
       simp only [St.L, aG_] at hu ⊢
       cases hb : Nat.beq t d with
       | true => rw [hb] at hu; cases hu
       | false => rw [hb] at hu; exact hu), hH, hrest⟩
     refine mr_ heq ht hIx hK hfi hfa hfg hfd (fun t ht1 => hmem t (List.mem_of_mem_drop ht1)) h3 (fun t ht1 => hmem t (List.mem_of_mem_take ht1)) (lu_ hds) hL hdN hzs hR2
    exact this rfl (by rw [Nat.zero_add]; exact List.length_take_le _ _) _ fun a' h1 => h1 rfl
   ·cases hfb
def oT_ (heq : ∀ p ∈ eqs, bl_ P E p.1 p.2) (ht : tab.OK P E) (all : List Oper) (fr : List Nat) (m : Nat) (hm : ∀ i, i < m → fr.contains i = false) (W : World) (I : World → Prop) (hI : ∀ z g H, HR P E Bs F0.z.F w0 W z g H → F0.z.Le z → ∀ w', I w' → Keeps P E z g H W w') (Q : Exit → Act → World → Prop) (t : OT) : Walk P E (fun L H nx o _ k => hi_ P E eqs tab L H nx o k) N Bs F0 w0 all where
 W J l i a w := w = W → i + l.length ≤ m → ∀ rest : List (Nat × Bool), (∀ a', J a' W → e4_ P all.toArray fr I Q t rest a' W) → e4_ P all.toArray fr I Q t (ec_ i l ++ rest) a W
 nil hJ := fun e _ rest h => h _ (e ▸ hJ)
 app h1 h2 := fun e hle rest h => by
  rw [in_, List.append_assoc]
  rw [List.length_append] at hle
  exact h1 e (by omega) _ fun a' hJ => h2 a' W hJ rfl (by omega) rest h
 skip {J o l i a w} ho hw h1 := fun e hle rest h => by
  simp only [List.length_cons] at hle
  simp only [ec_, List.cons_append]
  refine jG_ o ho fun K hK => ?_
  rw [if_neg (by rw [hw]; exact Bool.false_ne_true)]
  exact hK _ (h1 e (by omega) rest h)
 step {J o l i a w R L H nx z g k r} ho hw hE hH hf hz hg hev hk := fun e hle rest h => by
  simp only [List.length_cons] at hle
  subst e
  simp only [ec_, List.cons_append]
  refine jG_ o ho fun K hK => ?_
  rw [if_pos hw, hm i (by omega)]
  obtain ⟨s, u, v, g2, h1, h2, h3, h4, h5, h6⟩ := jF_ heq ht hf hE hH (hI z g H hH hz) hev
  refine ⟨v, h6, hK _ ?_⟩
  exact hk (some s) u v w z g2 h1 (Fz.Le.refl z) h2 (hE.le (Fz.Le.refl z) h2) h3 h4.nxU (fun sv hsv => by obtain rfl := Option.some.inj hsv; exact h5) rfl (by omega) rest h
 pick {J o l i a w v} ho hw hr h1 := fun e hle rest h => by
  simp only [List.length_cons] at hle
  simp only [ec_, List.cons_append]
  refine jG_ o ho fun K hK => ?_
  rw [if_pos hw]
  exact ⟨v, fun w' _ => by rw [hr]; exact ⟨rfl, rfl⟩, hK _ (h1 e (by omega) rest h)⟩
theorem evOT_ok (heq : ∀ p ∈ eqs, bl_ P E p.1 p.2) (ht : tab.OK P E) {R : Type} {r : R} {all : List Oper} {Q : Exit → Act → World → Prop} {b : Ba E} {k : St E → Option R}
  (hK : ∀ s' a' w', k s' = some r → Rel P E Bs F0 w0 N (s'.L b) (s'.H b) s'.nx a' w' → Q .normal a' w') : ∀ {t : OT} {c : Bool} {s : St E} {a : Act} {w : World},
  evOT P E eqs tab N b all k t s = some r → Rel P E Bs F0 w0 N (s.L b) (s.H b) s.nx a w → wpO P all.toArray Q t c a w := by
 have step : ∀ {i : Nat} {t : OT} (ih : ∀ {s : St E} {a : Act} {w : World}, evOT P E eqs tab N b all k t s = some r → Rel P E Bs F0 w0 N (s.L b) (s.H b) s.nx a w → wpO P all.toArray Q t false a w) {s : St E} {a : Act} {w : World},
   (match all[i]? with
    | none => none
    | some o => match o.guard with
     | some _ => none
     | none => evOp P E eqs tab (s.L b) (s.H b) s.nx o fun v u => match s.after N o v u with
      | some s1 => evOT P E eqs tab N b all k t s1
      | none => none) = some r → Rel P E Bs F0 w0 N (s.L b) (s.H b) s.nx a w →
   (match all.toArray[i]? with
    | none => False
    | some o => ∀ X d, wpList P all.toArray (Exit.then (fun a' w' => wpO P all.toArray Q t false a' w') (dh_ Q)) [o] a (w.ext X d)) := by
  intro i t ih s a w h hR
  split at h
  ·cases h
  ·rename_i o ho
   split at h
   ·cases h
   ·rename_i hgd
    have ho' : all.toArray[i]? = some o := by simpa using ho
    rw [ho']
    intro X d
    obtain ⟨z, g, hE, hH, hfr, hz0, hg0⟩ := hR.ext ⟨X, d, rfl⟩
    refine wpList_step fun K2 hK2 => ?_
    rw [if_pos (cl_ hgd _)]
    refine jD_ heq ht hfr hE hH h fun v u x w' z2 g2 hk hz2 hg2 hE2 hH2 hf2 hv _ => hK2 _ _ ?_
    split at hk
    ·rename_i s1 hs1
     obtain ⟨hR1, _⟩ := dm_ hs1 hE2 hH2 (hz0.trans hz2) (hg0.trans hg2) hf2 hv
     exact ih hk hR1
    ·cases hk
 intro t
 induction t with
 | nil =>
  intro c s a w h hR
  cases c with
  | true => trivial
  | false => exact fun X d => hK s a _ (by simpa only [evOT] using h) (hR.ext ⟨X, d, rfl⟩)
 | free i t ih =>
  intro c s a w h hR
  simp only [evOT] at h
  split at h
  ·cases h
  ·rename_i o ho
   split at h
   ·cases h
   ·rename_i hgd
    have ho' : all.toArray[i]? = some o := by simpa using ho
    simp only [wpO, ho']
    rw [if_pos (cl_ hgd _)]
    obtain ⟨z, g, hE, hH, hfr, hz0, hg0⟩ := hR
    obtain ⟨sv, v, up, g2, hk, hgl, hgn, hv, hrun, hup⟩ := hS_ (nx := s.nx) heq hE.op (hH.less (H' := fun _ => none) fun _ _ e => by cases e) h (fun _ => True)
    simp only at hk
    split at hk
    ·cases hk
    ·obtain rfl : g2 = g := hup
     split at hk
     ·rename_i s1 hs1
      obtain ⟨hR1, _⟩ := dm_ (u := []) hs1 hE hH hz0 hg0 (fun j hj => hfr j (by simp only [nxU] at hj; omega)) (fun sv' e => by obtain rfl := Option.some.inj e; exact hv)
      exact ⟨v, fun w' _ => by rw [hrun w' trivial]; exact ⟨rfl, rfl⟩, ih hk hR1⟩
     ·cases hk
 | alt i t rr ih ihr =>
  intro c s a w h hR
  cases rr with
  | nil =>
   simp only [evOT] at h
   exact ⟨step (fun h hR => ih h hR) h hR, trivial⟩
  | free j t2 =>
   simp only [evOT] at h
   cases h
  | alt j t2 r2 =>
   rw [evOT] at h
   obtain ⟨h1, h2⟩ := both_some h
   exact ⟨step (fun h hR => ih h hR) h1 hR, ihr h2 hR⟩
theorem evOrd_ok (heq : ∀ p ∈ eqs, bl_ P E p.1 p.2) (ht : tab.OK P E) {R : Type} {l : List Oper} {p : Nat} {t : OT} {id : Nat} {b : Ba E} {s : St E} {k : St E → Option R} {r : R} {a : Act} {w : World} {Q : Exit → Act → World → Prop} (h : evOrd P E eqs tab N l p t b s k = some r) (hR : Rel P E Bs F0 w0 N (s.L b) (s.H b) s.nx a w)
  (hK : ∀ s' a' w', k s' = some r → Rel P E Bs F0 w0 N (s'.L b) (s'.H b) s'.nx a' w' → Q .normal a' w') : (Code.region id l.toArray true).wp P Q a w := by
 unfold evOrd at h
 split at h
 ·cases h
 ·rename_i hchk
  simp only [Bool.and_eq_true] at hchk
  obtain ⟨hm, hfr, hB⟩ := hchk
  have hIx : ∀ w1 w', Ext w w1 → Ext w1 w' → Ext w w' := fun _ _ h1 h2 => h1.trans h2
  have hI : ∀ z g H, HR P E Bs F0.z.F w0 w z g H → F0.z.Le z → ∀ w', Ext w w' → Keeps P E z g H w w' := fun z g H h1 _ w' h2 => Keeps.of_ext h1 h2
  have hnf : ∀ i, i < p → t.frO.contains i = false := fun i hi => by
   cases hc : t.frO.contains i with
   | false => rfl
   | true =>
    have := List.all_eq_true.1 hfr i (List.contains_iff_mem.1 hc)
    have := Nat.le_of_ble_eq_true this
    omega
  refine kU_ (I := Ext w) hIx _ _ _ hm hB (Ext.refl w) ?_
  have := fF_ (oT_ heq ht l t.frO p hnf w (Ext w) hI Q t) _ (tl := l.drop p) (J := fun a' w' => w' = w → e4_ P l.toArray t.frO (Ext w) Q t [] a' w) h (by simp) hR trivial fun s' a' w' h1 h2 _ hw => by
   subst hw
   exact evOT_ok heq ht hK h1 h2
  have h3 := this rfl (by rw [Nat.zero_add]; exact List.length_take_le _ _) [] fun a' h1 => h1 rfl
  rwa [List.append_nil] at h3
def chainWalk (heq : ∀ p ∈ eqs, bl_ P E p.1 p.2) (ht : tab.OK P E) (all : List Oper) (Q : Exit → Act → World → Prop) : Walk P E (fun L H nx o _ k => evOp P E eqs tab L H nx o k) N Bs F0 w0 all where
 W J l i a w := ∀ n : Nat, (∀ a' w', J a' w' → ∀ w'', Ext w' w'' → wpO P all.toArray Q (chO (i + l.length) n) false a' w'') → ∀ w', Ext w w' → wpO P all.toArray Q (chO i (l.length + n)) false a w'
 nil {J i a w} hJ := fun n h w' hx => by
  rw [List.length_nil, Nat.zero_add]
  exact h _ _ hJ w' hx
 app {J1 J l1 l2 i a w} h1 h2 := fun n h w' hx => by
  rw [List.length_append, Nat.add_assoc]
  exact h1 (l2.length + n) (fun a' w1 hJ w'' hx' => h2 a' w1 hJ n (by rw [Nat.add_assoc, ← List.length_append]; exact h) w'' hx') w' hx
 skip {J o l i a w} ho hw h1 := fun n h w' hx => by
  rw [List.length_cons, show l.length + 1 + n = (l.length + n) + 1 by omega]
  have ho' : all.toArray[i]? = some o := by simpa using ho
  refine ⟨?_, trivial⟩
  rw [ho']
  intro X d
  refine wpList_step fun K hK => ?_
  rw [if_neg (by rw [hw]; exact Bool.false_ne_true)]
  exact hK _ _ (h1 n (by rw [show i + 1 + l.length = i + (o :: l).length by rw [List.length_cons]; omega]; exact h) _ (hx.trans ⟨X, d, rfl⟩))
 step {J o l i a w R L H nx z g k r} ho hw hE hH hf hz hg hev hk := fun n h w' hx => by
  rw [List.length_cons, show l.length + 1 + n = (l.length + n) + 1 by omega]
  have ho' : all.toArray[i]? = some o := by simpa using ho
  refine ⟨?_, trivial⟩
  rw [ho']
  intro X d
  refine wpList_step fun K hK => ?_
  rw [if_pos hw]
  exact evOp_ok heq ht hf hE (hH.ext (hx.trans ⟨X, d, rfl⟩)) hev fun v u x w2 z2 g2 h1 h2 h3 h4 h5 h6 h7 => hK _ _ (hk v u x w2 z2 g2 h1 h2 h3 h4 h5 h6 h7 n (by rw [show i + 1 + l.length = i + (o :: l).length by rw [List.length_cons]; omega]; exact h) w2 (Ext.refl w2))
 pick {J o l i a w v} ho hw hr h1 := fun n h w' hx => by
  rw [List.length_cons, show l.length + 1 + n = (l.length + n) + 1 by omega]
  have ho' : all.toArray[i]? = some o := by simpa using ho
  refine ⟨?_, trivial⟩
  rw [ho']
  intro X d
  refine wpList_step fun K hK => ?_
  rw [if_pos hw]
  unfold Oper.wp
  rw [hr _]
  exact hK _ _ (h1 n (by rw [show i + 1 + l.length = i + (o :: l).length by rw [List.length_cons]; omega]; exact h) _ (hx.trans ⟨X, d, rfl⟩))
theorem evChain_ok (heq : ∀ p ∈ eqs, bl_ P E p.1 p.2) (ht : tab.OK P E) {R : Type} {l : List Oper} {p : Nat} {id : Nat} {b : Ba E} {s : St E} {k : St E → Option R} {r : R} {a : Act} {w : World} {Q : Exit → Act → World → Prop} (h : evChain P E eqs tab N l p b s k = some r) (hR : Rel P E Bs F0 w0 N (s.L b) (s.H b) s.nx a w)
  (hK : ∀ s' a' w', k s' = some r → Rel P E Bs F0 w0 N (s'.L b) (s'.H b) s'.nx a' w' → Q .normal a' w') : (Code.region id l.toArray true).wp P Q a w := by
 unfold evChain at h
 split at h
 ·cases h
 ·rename_i hchk
  simp only [Bool.and_eq_true] at hchk
  obtain ⟨hm, hle, hB⟩ := hchk
  have hle := Nat.le_of_ble_eq_true hle
  have hIx : ∀ w1 w', Ext w w1 → Ext w1 w' → Ext w w' := fun _ _ h1 h2 => h1.trans h2
  have hI : ∀ z g H, HR P E Bs F0.z.F w0 w z g H → F0.z.Le z → ∀ w', Ext w w' → Keeps P E z g H w w' := fun z g H h1 _ w' h2 => Keeps.of_ext h1 h2
  refine kU_ (I := Ext w) hIx _ _ _ hm hB (Ext.refl w) ?_
  have := fF_ (oT_ heq ht l [] p (fun _ _ => rfl) w (Ext w) hI Q (chO p (l.length - p))) _ (tl := l.drop p) (J := fun a' w' => w' = w → e4_ P l.toArray [] (Ext w) Q (chO p (l.length - p)) [] a' w') h (by simp) hR trivial fun s' a' w' h1 h2 h5 hw => by
   subst hw
   have h4 := fF_ (chainWalk heq ht l Q) _ (tl := []) (J := fun a' w' => ∀ w'', Ext w' w'' → wpO P l.toArray Q (chO l.length 0) false a' w'') h1 (by simp) h2 trivial fun s' a' w' h1 h2 _ w'' hx X d => hK s' a' _ h1 (h2.ext (hx.trans ⟨X, d, rfl⟩))
   have h6 := h4 0 (by
    rw [List.length_drop, show p + (l.length - p) = l.length by omega]
    exact fun a' w' h => h) w' (Ext.refl _)
   rw [List.length_drop, Nat.add_zero] at h6
   exact h6
  have h3 := this rfl (by rw [Nat.zero_add]; exact List.length_take_le _ _) [] fun a' h1 => h1 rfl
  rwa [List.append_nil] at h3
end Rt
end Go
