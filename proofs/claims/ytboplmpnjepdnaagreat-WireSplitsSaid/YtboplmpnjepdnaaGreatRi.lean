/-
  The second engine, ninth text: what is known of a function that is called. No program in sight.
-/
import Derived.Test.YtboplmpnjepdnaaGreatRv
namespace Go
namespace Rt
open Go.RowKit

/-! ### Tuples -/
def Tp (S : Nat → Type) : List Ty → Type
  | [] => Unit
  | [t] => Den S t
  | t :: u :: ts => Den S t × Tp S (u :: ts)
def toTp {S : Nat → Type} : (ts : List Ty) → HL S ts → Tp S ts
  | [], _ => ()
  | [_], h => h.1
  | _ :: u :: ts, h => (h.1, toTp (u :: ts) h.2)
def ofTp {S : Nat → Type} : (ts : List Ty) → Tp S ts → HL S ts
  | [], _ => ()
  | [_], h => (h, ())
  | _ :: u :: ts, h => (h.1, ofTp (u :: ts) h.2)
theorem ofTp_toTp {S : Nat → Type} : ∀ (ts : List Ty) (h : HL S ts), ofTp ts (toTp ts h) = h
  | [], _ => rfl
  | [_], _ => rfl
  | t :: u :: ts, h => by
    simp only [toTp, ofTp]
    rw [ofTp_toTp (u :: ts) h.2]
    rfl
/-! ### Parameters and results -/
/-- Marks of cells: rows that go over to the other side, with the type of their elements. -/
abbrev Mk := List (Option TypeId)
/-- How a parameter is handed over. -/
inductive Pm where
  /-- data that is read -/
  | d (t : Ty)
  /-- data; the marked cells are rows of the caller's own, which the call may turn -/
  | l (t : Ty) (m : Mk)
  /-- data; the marked cells are rows of the caller's own, given over for good -/
  | g (t : Ty) (m : Mk)
  /-- a pointer to a variable of the caller's own, which the call may turn -/
  | b (T : TypeId) (t : Ty)
  /-- a pointer to frozen data -/
  | p (t : Ty)
  /-- a map of the caller's own, which the call may turn -/
  | mp (T : TypeId) (k v : Ty)
  | f1 (a r : Ty)
  | f2 (a b r : Ty)
@[reducible] def Pm.T (E : TE) : Pm → Type
  | .d t => Den E.S t
  | .l t _ => Den E.S t
  | .g t _ => Den E.S t
  | .b _ t => Den E.S t
  | .p t => Den E.S t
  | .mp _ k v => List (Den E.S k) × List (Den E.S v)
  | .f1 x r => Den E.S x → Option (Den E.S r)
  | .f2 x y r => Den E.S x → Den E.S y → Option (Den E.S r)
def PA (E : TE) : List Pm → Type
  | [] => Unit
  | p :: ps => p.T E × PA E ps
/-- What comes back of parameters that may turn. -/
def backs : List Pm → List Ty
  | [] => []
  | .l t _ :: ps => t :: backs ps
  | .b _ t :: ps => t :: backs ps
  | .mp _ k v :: ps => .sl k :: .sl v :: backs ps
  | _ :: ps => backs ps
/-- The data of parameters, what may have turned replaced. -/
def putB (E : TE) : (ps : List Pm) → PA E ps → HL E.S (backs ps) → PA E ps
  | [], _, _ => ()
  | .l _ _ :: ps, a, h => (h.1, putB E ps a.2 h.2)
  | .g _ _ :: ps, a, h => (a.1, putB E ps a.2 h)
  | .b _ _ :: ps, a, h => (h.1, putB E ps a.2 h.2)
  | .mp _ _ _ :: ps, a, h => ((h.1, h.2.1), putB E ps a.2 h.2.2)
  | .d _ :: ps, a, h => (a.1, putB E ps a.2 h)
  | .p _ :: ps, a, h => (a.1, putB E ps a.2 h)
  | .f1 _ _ :: ps, a, h => (a.1, putB E ps a.2 h)
  | .f2 _ _ _ :: ps, a, h => (a.1, putB E ps a.2 h)
abbrev Rs := List (Ty × Mk)
def Rs.ts : Rs → List Ty
  | [] => []
  | p :: rs => p.1 :: Rs.ts rs
/-- The cells of data, some of them rows of one's own: their numbers, from n on. -/
def ownC (E : TE) : Mk → (ts : List Ty) → HL E.S ts → Nat → List (SC E)
  | some _ :: ms, .sl _ :: ts, h, n => .own n :: ownC E ms ts h.2 (n + 1)
  | none :: ms, t :: ts, h, n => .dt t h.1 :: ownC E ms ts h.2 n
  | _, ts, h, _ => hlc E ts h
/-- .. and these rows. -/
def ownO (E : TE) : Mk → (ts : List Ty) → HL E.S ts → Nat → Chs E
  | some e :: ms, .sl t :: ts, h, n => (n, some (.row e t h.1 [])) :: ownO E ms ts h.2 (n + 1)
  | none :: ms, _ :: ts, h, n => ownO E ms ts h.2 n
  | _, _, _, _ => []
def cntO : Mk → List Ty → Nat
  | some _ :: ms, .sl _ :: ts => cntO ms ts + 1
  | none :: ms, _ :: ts => cntO ms ts
  | _, _ => 0
/-- .. as a slot. -/
def asV (E : TE) : (t : Ty) → List (SC E) → Option (V1 E)
  | .st _, l => some (.agg l)
  | _, [c] => some (.one c)
  | _, _ => none
/-- The arguments of a call, on the side of the function that is called: rows and variables are numbered from n on. -/
def argsV (E : TE) : (ps : List Pm) → PA E ps → Nat → Option (List (V1 E))
  | [], _, _ => some []
  | .d t :: ps, a, n => match asV E t (E.cells t a.1), argsV E ps a.2 n with
    | some v, some q => some (v :: q)
    | _, _ => none
  | .l t m :: ps, a, n => match asV E t (ownC E m (E.flat t) (E.fl t a.1) n), argsV E ps a.2 (n + cntO m (E.flat t)) with
    | some v, some q => some (v :: q)
    | _, _ => none
  | .g t m :: ps, a, n => match asV E t (ownC E m (E.flat t) (E.fl t a.1) n), argsV E ps a.2 (n + cntO m (E.flat t)) with
    | some v, some q => some (v :: q)
    | _, _ => none
  | .b _ _ :: ps, a, n => match argsV E ps a.2 (n + 1) with
    | some q => some (.one (.ptr n 0) :: q)
    | none => none
  | .mp _ _ _ :: ps, a, n => match argsV E ps a.2 (n + 1) with
    | some q => some (.one (.mp n) :: q)
    | none => none
  | .p t :: ps, a, n => match argsV E ps a.2 n with
    | some q => some (.one (.elf t a.1 0) :: q)
    | none => none
  | .f1 x r :: ps, a, n => match argsV E ps a.2 n with
    | some q => some (.one (.fn1 x r a.1) :: q)
    | none => none
  | .f2 x y r :: ps, a, n => match argsV E ps a.2 n with
    | some q => some (.one (.fn2 x y r a.1) :: q)
    | none => none
def argsO (E : TE) : (ps : List Pm) → PA E ps → Nat → Chs E
  | [], _, _ => []
  | .l t m :: ps, a, n => ownO E m (E.flat t) (E.fl t a.1) n ++ argsO E ps a.2 (n + cntO m (E.flat t))
  | .g t m :: ps, a, n => ownO E m (E.flat t) (E.fl t a.1) n ++ argsO E ps a.2 (n + cntO m (E.flat t))
  | .b T t :: ps, a, n => (n, some (.box T (E.cells t a.1))) :: argsO E ps a.2 (n + 1)
  | .mp T k v :: ps, a, n => (n, some (.map T k v a.1.1 a.1.2 [])) :: argsO E ps a.2 (n + 1)
  | .d _ :: ps, a, n => argsO E ps a.2 n
  | .p _ :: ps, a, n => argsO E ps a.2 n
  | .f1 _ _ :: ps, a, n => argsO E ps a.2 n
  | .f2 _ _ _ :: ps, a, n => argsO E ps a.2 n
/-- .. of them those that come back. -/
def argsB (E : TE) : (ps : List Pm) → PA E ps → Nat → Chs E
  | [], _, _ => []
  | .l t m :: ps, a, n => ownO E m (E.flat t) (E.fl t a.1) n ++ argsB E ps a.2 (n + cntO m (E.flat t))
  | .g t m :: ps, a, n => argsB E ps a.2 (n + cntO m (E.flat t))
  | .b T t :: ps, a, n => (n, some (.box T (E.cells t a.1))) :: argsB E ps a.2 (n + 1)
  | .mp T k v :: ps, a, n => (n, some (.map T k v a.1.1 a.1.2 [])) :: argsB E ps a.2 (n + 1)
  | .d _ :: ps, a, n => argsB E ps a.2 n
  | .p _ :: ps, a, n => argsB E ps a.2 n
  | .f1 _ _ :: ps, a, n => argsB E ps a.2 n
  | .f2 _ _ _ :: ps, a, n => argsB E ps a.2 n
theorem argsB_sub {E : TE} : ∀ {ps : List Pm} {a : PA E ps} {n : Nat} {x : Nat × Option (Obj E)}, x ∈ argsB E ps a n → x ∈ argsO E ps a n
  | [], _, _, _, h => h
  | .l _ _ :: ps, a, n, x, h => by
    rcases List.mem_append.1 h with h | h
    · exact List.mem_append.2 (.inl h)
    · exact List.mem_append.2 (.inr (argsB_sub (ps := ps) h))
  | .g _ _ :: ps, a, n, x, h => List.mem_append.2 (.inr (argsB_sub (ps := ps) h))
  | .b _ _ :: ps, a, n, x, h => by
    rcases List.mem_cons.1 h with h | h
    · exact List.mem_cons.2 (.inl h)
    · exact List.mem_cons.2 (.inr (argsB_sub (ps := ps) h))
  | .mp _ _ _ :: ps, a, n, x, h => by
    rcases List.mem_cons.1 h with h | h
    · exact List.mem_cons.2 (.inl h)
    · exact List.mem_cons.2 (.inr (argsB_sub (ps := ps) h))
  | .d _ :: ps, _, _, _, h => argsB_sub (ps := ps) h
  | .p _ :: ps, _, _, _, h => argsB_sub (ps := ps) h
  | .f1 _ _ :: ps, _, _, _, h => argsB_sub (ps := ps) h
  | .f2 _ _ _ :: ps, _, _, _, h => argsB_sub (ps := ps) h
def cntA (E : TE) : List Pm → Nat
  | [] => 0
  | .l t m :: ps => cntO m (E.flat t) + cntA E ps
  | .g t m :: ps => cntO m (E.flat t) + cntA E ps
  | .b _ _ :: ps => 1 + cntA E ps
  | .mp _ _ _ :: ps => 1 + cntA E ps
  | _ :: ps => cntA E ps
/-- The results: rows are numbered from n on. -/
def resV (E : TE) : (rs : Rs) → HL E.S rs.ts → Nat → Option (List (V1 E))
  | [], _, _ => some []
  | (t, m) :: rs, h, n => match asV E t (ownC E m (E.flat t) (E.fl t h.1) n), resV E rs h.2 (n + cntO m (E.flat t)) with
    | some v, some q => some (v :: q)
    | _, _ => none
def resO (E : TE) : (rs : Rs) → HL E.S rs.ts → Nat → Chs E
  | [], _, _ => []
  | (t, m) :: rs, h, n => ownO E m (E.flat t) (E.fl t h.1) n ++ resO E rs h.2 (n + cntO m (E.flat t))
/-- One result is itself, several are a tuple. -/
def oneV (E : TE) : List (V1 E) → SV E
  | [x] => .v x
  | l => .tup l
/-- What is said of a function: its parameters, its results (and which of their cells are rows that are the caller's own from now on), whether results may lie in frozen memory; and the function on plain data, told in passing its result on. -/
structure Con (E : TE) where
  ps : List Pm
  rs : Rs
  ali : Bool
  F : (R : Type) → PA E ps → (HL E.S rs.ts → HL E.S (backs ps) → Option R) → Option R
/-- A call with data a returns rh, and leaves in what may turn bh. -/
def CallOK (P : Program) (E : TE) (f : FuncId) (ps : List Pm) (rs : Rs) (ali : Bool) (a : PA E ps) (rh : HL E.S rs.ts) (bh : HL E.S (backs ps)) : Prop :=
  ∀ (w : World) (z : Fz) (g : Ga) (Bs : List Nat) (svs : List (V1 E)) (vs : List Value), argsV E ps a 0 = some svs → HR P E Bs z.F w w z g (upH (fun _ => none) (argsO E ps a 0)) → Fresh g (cntA E ps) → All2 (R1 P E z g) svs vs →
    Ret P f vs.toArray w fun v w' => ∃ z' g' svr, z.Le z' ∧ (ali = false → z' = z) ∧ g.Le g' ∧ resV E rs rh (cntA E ps) = some svr ∧ RV P E z' g' (oneV E svr) v ∧
      HR P E Bs z.F w w' z' g' (upH (fun _ => none) (resO E rs rh (cntA E ps) ++ argsB E ps (putB E ps a bh) 0))
/-- The contract stands. -/
def Con.OK (P : Program) (E : TE) (f : FuncId) (C : Con E) : Prop :=
  ∀ (R : Type) (a : PA E C.ps) (k : HL E.S C.rs.ts → HL E.S (backs C.ps) → Option R) (r : R), C.F R a k = some r → ∃ rh bh, k rh bh = some r ∧ CallOK P E f C.ps C.rs C.ali a rh bh

section
variable {P : Program} {E : TE} {z z' : Fz} {g g' : Ga} {nx : Nat} {w w' w0 : World} {H H' : Nat → Option (Obj E)} {Bs : List Nat} {F0 : Nat → Prop}
/-! ### Renumbering -/
/-- Cells, their numbers turned by s. -/
def SC.ren (s : Nat → Nat) : SC E → SC E
  | .own id => .own (s id)
  | .ptr id off => .ptr (s id) off
  | c => c
theorem ownC_ren (m : Mk) : ∀ (ts : List Ty) (h : HL E.S ts) (n d : Nat) (v : List Value), All2 (RC P E z g) (ownC E m ts h n) v → (∀ i l, g i = some l → n ≤ i → g' (i + d) = some l) → All2 (RC P E z g') (ownC E m ts h (n + d)) v := by
  induction m with
  | nil =>
    intro ts h n d v hv _
    cases ts with
    | nil => simp only [ownC] at hv ⊢; exact hlc_rd.1 (hlc_rd.2 hv)
    | cons t ts => simp only [ownC] at hv ⊢; exact hlc_rd.1 (hlc_rd.2 hv)
  | cons o m ih =>
    intro ts h n d v hv hg
    cases ts with
    | nil =>
      cases o <;> simp only [ownC] at hv ⊢ <;> exact hlc_rd.1 (hlc_rd.2 hv)
    | cons t ts =>
      cases o with
      | none =>
        simp only [ownC] at hv ⊢
        cases hv with
        | cons h1 h2 => exact .cons h1 (ih ts h.2 n d _ h2 hg)
      | some e =>
        cases t with
        | sl t =>
          simp only [ownC] at hv ⊢
          cases hv with
          | cons h1 h2 =>
            obtain ⟨l, h3, h4⟩ := h1
            refine .cons ⟨l, hg n l h3 (Nat.le_refl _), h4⟩ ?_
            have := ih ts h.2 (n + 1) d _ h2 fun i l hi hle => hg i l hi (by omega)
            rwa [show n + 1 + d = n + d + 1 by omega] at this
        | _ => simp only [ownC] at hv ⊢; exact hlc_rd.1 (hlc_rd.2 hv)
end
end Rt
end Go
