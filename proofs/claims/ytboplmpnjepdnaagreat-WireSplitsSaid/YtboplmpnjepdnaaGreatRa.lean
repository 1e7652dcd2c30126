/-
  The second engine, first text: types as data, plain data of a type, what cells stand for plain data. No program in sight.
-/
import Derived.Test.YtboplmpnjepdnaaGreatMp
namespace Go
namespace Rt
open Go.RowKit

/-! ### Types as data, and plain data -/
inductive Ty where
  | int (k : IntKind)
  | bool
  | str
  | sl (e : Ty)
  | st (n : Nat)
deriving DecidableEq
/-- Plain data of a type; 'S' says what a struct's data are. -/
@[reducible] def Den (S : Nat → Type) : Ty → Type
  | .int _ => Int
  | .bool => Bool
  | .str => Str
  | .sl e => List (Den S e)
  | .st n => S n
def HL (S : Nat → Type) : List Ty → Type
  | [] => Unit
  | t :: ts => Den S t × HL S ts
/-- The structs of a program: their data, the types of their cells, the way from data to cells and back. -/
structure TE where
  S : Nat → Type
  cs : Nat → List Ty
  un : ∀ n, S n → HL S (cs n)
  bd : ∀ n, HL S (cs n) → S n
  bd_un : ∀ n x, bd n (un n x) = x
  un_bd : ∀ n h, un n (bd n h) = h
  deq : ∀ n, Option (DecidableEq (S n))
  /-- the type that a number of the program stands for -/
  ty : Nat → Option Ty
  ne : ∀ n, cs n ≠ []
def TE.flat (E : TE) : Ty → List Ty
  | .st n => E.cs n
  | t => [t]
def TE.fl (E : TE) : (t : Ty) → Den E.S t → HL E.S (E.flat t)
  | .st n, x => E.un n x
  | .int _, x => (x, ())
  | .bool, x => (x, ())
  | .str, x => (x, ())
  | .sl _, x => (x, ())
def TE.ufl (E : TE) : (t : Ty) → HL E.S (E.flat t) → Den E.S t
  | .st n, h => E.bd n h
  | .int _, h => h.1
  | .bool, h => h.1
  | .str, h => h.1
  | .sl _, h => h.1
theorem TE.ufl_fl (E : TE) (t : Ty) (x : Den E.S t) : E.ufl t (E.fl t x) = x := by
  cases t <;> first | rfl | exact E.bd_un _ _
theorem TE.fl_ufl (E : TE) (t : Ty) (h : HL E.S (E.flat t)) : E.fl t (E.ufl t h) = h := by
  cases t <;> first | rfl | exact E.un_bd _ _
def TE.size (E : TE) (t : Ty) : Nat := (E.flat t).length
theorem TE.size_pos (E : TE) (t : Ty) : 0 < E.size t := by
  unfold TE.size
  cases t with
  | st n => exact List.length_pos_iff.2 (E.ne n)
  | _ => exact Nat.zero_lt_one

/-- Memory that is never written again: its blocks, and a world in which they stand. -/
structure Fz where
  F : Nat → Prop
  w : World
def Fz.Le (a b : Fz) : Prop := ∀ k, a.F k → b.F k ∧ b.w.heap[k]? = a.w.heap[k]?
theorem Fz.Le.refl (a : Fz) : a.Le a := fun _ h => ⟨h, rfl⟩
theorem Fz.Le.trans {a b c : Fz} (h : a.Le b) (k : b.Le c) : a.Le c := fun q hq => ⟨(k q (h q hq).1).1, (k q (h q hq).1).2.trans (h q hq).2⟩

/-- The values that stand for data, cell by cell. -/
inductive RD (E : TE) (z : Fz) : (ts : List Ty) → HL E.S ts → List Value → Prop
  | nil {h} : RD E z [] h []
  | int {k n ts h vs} (r : RD E z ts h vs) : RD E z (.int k :: ts) (n, h) (.int k n :: vs)
  | bool {b ts h vs} (r : RD E z ts h vs) : RD E z (.bool :: ts) (b, h) (.bool b :: vs)
  | str {s ts h vs} (r : RD E z ts h vs) : RD E z (.str :: ts) (s, h) (S s :: vs)
  | sl {e : Ty} {xs : List (Den E.S e)} {A : Option Addr} {cap : Nat} {rows : List (List Value)} {ts h vs} (hs : SlF z.F (E.size e) A xs.length rows z.w) (hc : xs.length ≤ cap)
      (hr : ∀ (i : Nat) x r, xs[i]? = some x → rows[i]? = some r → RD E z (E.flat e) (E.fl e x) r) (r : RD E z ts h vs) : RD E z (.sl e :: ts) (xs, h) (.slice A xs.length cap :: vs)
section
variable {E : TE} {z z' : Fz}
theorem SlF.le {c n : Nat} {A : Option Addr} {rows : List (List Value)} (h : SlF z.F c A n rows z.w) (hz : z.Le z') : SlF z'.F c A n rows z'.w :=
  ⟨h.1, fun hn => by
    obtain ⟨b, off, e, hb, hc⟩ := h.2 hn
    have hk := hz b hb
    exact ⟨b, off, e, hk.1, fun i r hr => ⟨(hc i r hr).1, fun j u hu => (World.cell?_of_block (w := z.w) hk.2).trans ((hc i r hr).2 j u hu)⟩⟩⟩
theorem RD.le {ts : List Ty} {h : HL E.S ts} {vs : List Value} (r : RD E z ts h vs) (hz : z.Le z') : RD E z' ts h vs := by
  induction r with
  | nil => exact .nil
  | int _ ih => exact .int ih
  | bool _ ih => exact .bool ih
  | str _ ih => exact .str ih
  | sl hs hc _ _ ihr ih => exact .sl (SlF.le hs hz) hc (fun i x r h1 h2 => ihr i x r h1 h2) ih
theorem RD.nil_inv {h : HL E.S []} {vs : List Value} (r : RD E z [] h vs) : vs = [] := by cases r; rfl
theorem RD.int_inv {k : IntKind} {ts : List Ty} {h : HL E.S (.int k :: ts)} {vs : List Value} (r : RD E z (.int k :: ts) h vs) : ∃ vs', vs = .int k h.1 :: vs' ∧ RD E z ts h.2 vs' := by
  cases r with | int r => exact ⟨_, rfl, r⟩
theorem RD.bool_inv {ts : List Ty} {h : HL E.S (.bool :: ts)} {vs : List Value} (r : RD E z (.bool :: ts) h vs) : ∃ vs', vs = .bool h.1 :: vs' ∧ RD E z ts h.2 vs' := by
  cases r with | bool r => exact ⟨_, rfl, r⟩
theorem RD.str_inv {ts : List Ty} {h : HL E.S (.str :: ts)} {vs : List Value} (r : RD E z (.str :: ts) h vs) : ∃ vs', vs = S h.1 :: vs' ∧ RD E z ts h.2 vs' := by
  cases r with | str r => exact ⟨_, rfl, r⟩
theorem RD.sl_inv {e : Ty} {ts : List Ty} {h : HL E.S (.sl e :: ts)} {vs : List Value} (r : RD E z (.sl e :: ts) h vs) : ∃ A cap rows vs', vs = .slice A h.1.length cap :: vs' ∧ SlF z.F (E.size e) A h.1.length rows z.w ∧ h.1.length ≤ cap ∧
    (∀ (i : Nat) x r, h.1[i]? = some x → rows[i]? = some r → RD E z (E.flat e) (E.fl e x) r) ∧ RD E z ts h.2 vs' := by
  cases r with | sl hs hc hr r => exact ⟨_, _, _, _, rfl, hs, hc, hr, r⟩
theorem RD.len {ts : List Ty} {h : HL E.S ts} {vs : List Value} (r : RD E z ts h vs) : vs.length = ts.length := by
  induction r with
  | nil => rfl
  | int _ ih => simp [ih]
  | bool _ ih => simp [ih]
  | str _ ih => simp [ih]
  | sl _ _ _ _ _ ih => simp [ih]
/-- The first cell, and the others. -/
theorem RD.uncons {t : Ty} {ts : List Ty} {h : HL E.S (t :: ts)} {vs : List Value} (r : RD E z (t :: ts) h vs) : ∃ v vs', vs = v :: vs' ∧ RD E z [t] (h.1, ()) [v] ∧ RD E z ts h.2 vs' := by
  cases r with
  | int r => exact ⟨_, _, rfl, .int .nil, r⟩
  | bool r => exact ⟨_, _, rfl, .bool .nil, r⟩
  | str r => exact ⟨_, _, rfl, .str .nil, r⟩
  | sl hs hc hr r => exact ⟨_, _, rfl, .sl hs hc hr .nil, r⟩
theorem RD.cons {t : Ty} {ts : List Ty} {x : Den E.S t} {h : HL E.S ts} {v : Value} {vs : List Value} (r : RD E z [t] (x, ()) [v]) (rs : RD E z ts h vs) : RD E z (t :: ts) (x, h) (v :: vs) := by
  cases r with
  | int _ => exact .int rs
  | bool _ => exact .bool rs
  | str _ => exact .str rs
  | sl hs hc hr _ => exact .sl hs hc hr rs
/-- What stands for data is a cell. -/
theorem RD.cell {t : Ty} {x : Den E.S t} {v : Value} (r : RD E z [t] (x, ()) [v]) : cellB v = true := by
  cases r <;> rfl
theorem RD.cells {ts : List Ty} {h : HL E.S ts} {vs : List Value} (r : RD E z ts h vs) : allCells vs = true := by
  induction r with
  | nil => rfl
  | int _ ih => simp [allCells, cellB, ih]
  | bool _ ih => simp [allCells, cellB, ih]
  | str _ ih => simp [allCells, cellB, S, ih]
  | sl _ _ _ _ _ ih => simp [allCells, cellB, ih]
end
end Rt
end Go
