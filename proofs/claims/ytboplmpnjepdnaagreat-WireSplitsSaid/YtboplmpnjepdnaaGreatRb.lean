/-
  The second engine, second text: the abstract memory (variables and rows of the call's own, frozen data) and what it says of a world. No program in sight.
-/
import Derived.Test.YtboplmpnjepdnaaGreatRa
namespace Go
namespace Rt
open Go.RowKit

/-- What one cell stands for. -/
inductive SC (E : TE) where
  /-- frozen data, of one cell -/
  | dt (t : Ty) (x : Den E.S t)
  /-- a slice: the whole of a row of the call's own -/
  | own (id : Nat)
  /-- .. its first n elements -/
  | pre (id : Nat) (n : Int)
  /-- a slice that is nil -/
  | nils
  /-- a pointer into a variable of the call's own -/
  | ptr (id off : Nat)
  /-- a pointer into an element of a row of the call's own -/
  | elo (id q : Nat) (i : Int) (off : Nat)
  /-- a pointer into frozen data -/
  | elf (t : Ty) (x : Den E.S t) (off : Nat)
  /-- a function that came in -/
  | fn1 (a r : Ty) (g : Den E.S a → Option (Den E.S r))
  | fn2 (a b r : Ty) (g : Den E.S a → Den E.S b → Option (Den E.S r))
  /-- a closure of the call's own; the variables that it captures -/
  | clo (f : FuncId) (caps : List Nat)
  /-- a map of the call's own -/
  | mp (id : Nat)
  /-- the stamp of an entry of a map -/
  | mst (q : Nat)
/-- What a slot stands for. -/
inductive V1 (E : TE) where
  | one (c : SC E)
  | agg (l : List (SC E))
inductive SV (E : TE) where
  | v (x : V1 E)
  | tup (l : List (V1 E))
/-- Memory of the call's own. -/
inductive Obj (E : TE) where
  | box (T : TypeId) (cs : List (SC E))
  | row (e : TypeId) (t : Ty) (xs : List (Den E.S t)) (foc : List (Nat × Int × Den E.S t))
  /-- frozen -/
  | fr (t : Ty) (xs : List (Den E.S t))
  | fb (t : Ty) (x : Den E.S t)
  | map (T : TypeId) (k v : Ty) (ks : List (Den E.S k)) (vs : List (Den E.S v)) (foc : List (Nat × Den E.S k))
/-- Where a row or a variable lies. -/
structure Loc where
  A : Option Addr
  n : Nat
  cap : Nat
  c : Nat
  b : Nat
  /-- of an element: its index -/
  ix : Int := 0
abbrev Ga := Nat → Option Loc
def Ga.Le (g h : Ga) : Prop := ∀ i l, g i = some l → h i = some l
def Ga.put (g : Ga) (i : Nat) (l : Loc) : Ga := fun j => if j = i then some l else g j
theorem Ga.Le.refl (g : Ga) : g.Le g := fun _ _ h => h
theorem Ga.Le.trans {f g h : Ga} (a : f.Le g) (b : g.Le h) : f.Le h := fun i l e => b i l (a i l e)
theorem Ga.le_put {g : Ga} {i : Nat} {l : Loc} (h : g i = none) : g.Le (g.put i l) := fun j l' e => by
  unfold Ga.put
  split
  · subst_vars; rw [h] at e; cases e
  · exact e
theorem Ga.put_self (g : Ga) (i : Nat) (l : Loc) : g.put i l i = some l := by unfold Ga.put; rw [if_pos rfl]
theorem Ga.put_ne (g : Ga) {i j : Nat} (l : Loc) (h : j ≠ i) : g.put i l j = g j := by unfold Ga.put; rw [if_neg h]

/-- Two lists, element by element. -/
inductive All2 {α β : Type} (R : α → β → Prop) : List α → List β → Prop
  | nil : All2 R [] []
  | cons {a b la bs} (h : R a b) (t : All2 R la bs) : All2 R (a :: la) (b :: bs)
namespace All2
variable {α β : Type} {R R' : α → β → Prop} {la la' : List α} {bs bs' : List β}
theorem len (h : All2 R la bs) : la.length = bs.length := by induction h with | nil => rfl | cons _ _ ih => simp [ih]
theorem mono (h : All2 R la bs) (hR : ∀ a b, R a b → R' a b) : All2 R' la bs := by
  induction h with
  | nil => exact .nil
  | cons h _ ih => exact .cons (hR _ _ h) ih
theorem append (h : All2 R la bs) (h' : All2 R la' bs') : All2 R (la ++ la') (bs ++ bs') := by
  induction h with
  | nil => exact h'
  | cons h _ ih => exact .cons h ih
theorem take (h : All2 R la bs) : ∀ (n : Nat), All2 R (la.take n) (bs.take n) := by
  induction h with
  | nil => intro n; simp; exact .nil
  | cons h _ ih =>
    intro n
    cases n with
    | zero => exact .nil
    | succ n => exact .cons h (ih n)
theorem drop (h : All2 R la bs) : ∀ (n : Nat), All2 R (la.drop n) (bs.drop n) := by
  induction h with
  | nil => intro n; simp; exact .nil
  | cons h t ih =>
    intro n
    cases n with
    | zero => exact .cons h t
    | succ n => exact ih n
theorem get (h : All2 R la bs) : ∀ {i : Nat} {a : α}, la[i]? = some a → ∃ b, bs[i]? = some b ∧ R a b := by
  induction h with
  | nil => intro i a h; simp at h
  | cons h _ ih =>
    intro i x hx
    cases i with
    | zero => simp at hx; subst hx; exact ⟨_, rfl, h⟩
    | succ i => exact ih (by simpa using hx)
theorem get' (h : All2 R la bs) : ∀ {i : Nat} {b : β}, bs[i]? = some b → ∃ a, la[i]? = some a ∧ R a b := by
  induction h with
  | nil => intro i a h; simp at h
  | cons h _ ih =>
    intro i x hx
    cases i with
    | zero => simp at hx; subst hx; exact ⟨_, rfl, h⟩
    | succ i => exact ih (by simpa using hx)
end All2
/-- Frozen memory stands in a world. -/
def Fz.In (z : Fz) (w : World) : Prop := ∀ k, z.F k → k < w.heap.size ∧ w.heap[k]? = z.w.heap[k]?
theorem Fz.In.ext {z : Fz} {w w' : World} (h : z.In w) (hx : Ext w w') : z.In w' := fun k hk => by
  have hb := hx.below
  exact ⟨Nat.lt_of_lt_of_le (h k hk).1 hb.size, (hb.block k (h k hk).1).trans (h k hk).2⟩
/-- The value of data of any type. -/
def RT (E : TE) (z : Fz) (t : Ty) (x : Den E.S t) (v : Value) : Prop :=
  match t, x with
  | .st n, x => ∃ vs, v = .agg vs.toArray ∧ RD E z (E.cs n) (E.un n x) vs
  | .int k, x => RD E z [.int k] (x, ()) [v]
  | .bool, x => RD E z [.bool] (x, ()) [v]
  | .str, x => RD E z [.str] (x, ()) [v]
  | .sl e, x => RD E z [.sl e] (x, ()) [v]
def RTs (E : TE) (z : Fz) : (ts : List Ty) → HL E.S ts → List Value → Prop
  | [], _, vs => vs = []
  | t :: ts, h, vs => ∃ v vs', vs = v :: vs' ∧ RT E z t h.1 v ∧ RTs E z ts h.2 vs'
def Ty.flatB : Ty → Bool
  | .int _ | .bool | .str => true
  | _ => false
/-- A function with code of its own. -/
def bodyB (P : Program) (f : FuncId) : Bool := match P.funcs[f]? with
  | some fn => !(fn.name == "runtime.NumGoroutine") && !fn.body.isNone
  | none => false
theorem callFunc_run {P : Program} {f : FuncId} {args : Array Value} {w : World} (h : bodyB P f = true) : (callFunc f args).run P w = .ok (.enter f args) w := by
  unfold bodyB at h
  split at h
  · rename_i fn hf
    simp only [Bool.and_eq_true, Bool.not_eq_true'] at h
    have h1 : ¬ fn.name = "runtime.NumGoroutine" := by simpa using h.1
    have h2 : ¬ fn.body = none := fun e => by rw [e] at h; simp at h
    unfold callFunc
    simp [hf, h1, h2]
  · cases h
/-- A function value, called with data, answers la g does, wherever the frozen memory stands; it leaves old memory alone. -/
def FnOK (P : Program) (E : TE) (z : Fz) (f : Value) (la : List Ty) (r : Ty) (g : HL E.S la → Option (Den E.S r)) : Prop :=
  ∃ fid caps, f = .func (.func fid) #[] caps ∧ (bodyB P fid = true ∧ r.flatB = true) ∧ ∀ (w : World) (z' : Fz) (h : HL E.S la) (y : Den E.S r) (args : List Value), z.Le z' → z'.In w → RTs E z' la h args → g h = some y →
    Ret P fid (args.toArray ++ caps) w fun u w' => RD E z' [r] (y, ()) [u] ∧ Ext w w'
theorem FnOK.le {P : Program} {E : TE} {z z' : Fz} {f : Value} {la : List Ty} {r : Ty} {g : HL E.S la → Option (Den E.S r)} (h : FnOK P E z f la r g) (hz : z.Le z') : FnOK P E z' f la r g := by
  obtain ⟨fid, caps, e, hf, hc⟩ := h
  exact ⟨fid, caps, e, hf, fun w z2 hh y args h1 h2 h3 h4 => hc w z2 hh y args (hz.trans h1) h2 h3 h4⟩

/-- The value of a cell. -/
def RC (P : Program) (E : TE) (z : Fz) (g : Ga) : SC E → Value → Prop
  | .dt t x, v => RD E z [t] (x, ()) [v]
  | .own id, v => ∃ l, g id = some l ∧ v = .slice l.A l.n l.cap
  | .pre id n, v => ∃ l, g id = some l ∧ v = .slice l.A n.toNat l.cap
  | .nils, v => v = .slice none 0 0
  | .ptr id off, v => ∃ l, g id = some l ∧ v = .pointer (some ⟨l.b, off, none⟩)
  | .elo _ q i off, v => ∃ l, g q = some l ∧ l.ix = i ∧ v = .pointer (some ⟨l.b, l.n + off, none⟩)
  | .elf t x off, v => ∃ b o r, v = .pointer (some ⟨b, o + off, none⟩) ∧ z.F b ∧ RD E z (E.flat t) (E.fl t x) r ∧ ∀ j u, r[j]? = some u → z.w.cell? ⟨b, o + j, none⟩ = some u
  | .fn1 a r f, v => FnOK P E z v [a] r fun h => f h.1
  | .fn2 a b r f, v => FnOK P E z v [a, b] r fun h => f h.1 h.2.1
  | .clo f caps, v => ∃ us, v = .func (.func f) #[] us.toArray ∧ All2 (fun id u => ∃ l, g id = some l ∧ u = .pointer (some ⟨l.b, 0, none⟩)) caps us
  | .mp id, v => ∃ l, g id = some l ∧ v = .map (some l.b)
  | .mst q, v => ∃ l, g q = some l ∧ v = .int .i64 (l.n : Int)
def R1 (P : Program) (E : TE) (z : Fz) (g : Ga) : V1 E → Value → Prop
  | .one c, v => RC P E z g c v
  | .agg l, v => ∃ vs, v = .agg vs.toArray ∧ All2 (RC P E z g) l vs
def RV (P : Program) (E : TE) (z : Fz) (g : Ga) : SV E → Value → Prop
  | .v x, v => R1 P E z g x v
  | .tup l, v => ∃ vs, v = .tuple vs.toArray ∧ All2 (R1 P E z g) l vs
section
variable {P : Program} {E : TE} {z z' : Fz} {g g' : Ga} {w w' w0 : World}
theorem RC.le {c : SC E} {v : Value} (h : RC P E z g c v) (hz : z.Le z') (hg : g.Le g') : RC P E z' g' c v := by
  cases c with
  | dt t x => exact RD.le h hz
  | own id => obtain ⟨l, h1, h2⟩ := h; exact ⟨l, hg _ _ h1, h2⟩
  | pre id n => obtain ⟨l, h1, h2⟩ := h; exact ⟨l, hg _ _ h1, h2⟩
  | nils => exact h
  | ptr id off => obtain ⟨l, h1, h2⟩ := h; exact ⟨l, hg _ _ h1, h2⟩
  | elo id q i off => obtain ⟨l, h1, h2⟩ := h; exact ⟨l, hg _ _ h1, h2⟩
  | elf t x off =>
    obtain ⟨b, o, r, h1, h2, h3, h4⟩ := h
    exact ⟨b, o, r, h1, (hz b h2).1, h3.le hz, fun j u hu => (World.cell?_of_block (w := z.w) (hz b h2).2).trans (h4 j u hu)⟩
  | fn1 a r f => exact FnOK.le h hz
  | fn2 a b r f => exact FnOK.le h hz
  | clo f caps => obtain ⟨us, h1, h2⟩ := h; exact ⟨us, h1, h2.mono fun _ _ ⟨l, h3, h4⟩ => ⟨l, hg _ _ h3, h4⟩⟩
  | mp id => obtain ⟨l, h1, h2⟩ := h; exact ⟨l, hg _ _ h1, h2⟩
  | mst q => obtain ⟨l, h1, h2⟩ := h; exact ⟨l, hg _ _ h1, h2⟩
theorem RC.cell {c : SC E} {v : Value} (h : RC P E z g c v) : cellB v = true := by
  cases c with
  | dt t x => exact RD.cell h
  | own id => obtain ⟨l, h1, rfl⟩ := h; rfl
  | pre id n => obtain ⟨l, h1, rfl⟩ := h; rfl
  | nils => simp only [RC] at h; subst h; rfl
  | ptr id off => obtain ⟨l, h1, rfl⟩ := h; rfl
  | elo id q i off => obtain ⟨l, h1, _, rfl⟩ := h; rfl
  | elf t x off => obtain ⟨b, o, r, rfl, _⟩ := h; rfl
  | fn1 a r f => obtain ⟨fid, caps, rfl, _⟩ := h; rfl
  | fn2 a b r f => obtain ⟨fid, caps, rfl, _⟩ := h; rfl
  | clo f caps => obtain ⟨us, rfl, _⟩ := h; rfl
  | mp id => obtain ⟨l, h1, rfl⟩ := h; rfl
  | mst q => obtain ⟨l, h1, rfl⟩ := h; rfl
theorem RC.cells {l : List (SC E)} {vs : List Value} (h : All2 (RC P E z g) l vs) : allCells vs = true := by
  induction h with
  | nil => rfl
  | cons h _ ih => simp [allCells, RC.cell h, ih]
theorem R1.le {x : V1 E} {v : Value} (h : R1 P E z g x v) (hz : z.Le z') (hg : g.Le g') : R1 P E z' g' x v := by
  cases x with
  | one c => exact RC.le h hz hg
  | agg l => obtain ⟨vs, e, h⟩ := h; exact ⟨vs, e, h.mono fun _ _ h => RC.le h hz hg⟩
theorem RV.le {x : SV E} {v : Value} (h : RV P E z g x v) (hz : z.Le z') (hg : g.Le g') : RV P E z' g' x v := by
  cases x with
  | v x => exact R1.le h hz hg
  | tup l => obtain ⟨vs, e, h⟩ := h; exact ⟨vs, e, h.mono fun _ _ h => R1.le h hz hg⟩
/-- The cells of data. -/
def hlc (E : TE) : (ts : List Ty) → HL E.S ts → List (SC E)
  | [], _ => []
  | t :: ts, h => .dt t h.1 :: hlc E ts h.2
theorem hlc_rd : ∀ {ts : List Ty} {h : HL E.S ts} {vs : List Value}, RD E z ts h vs ↔ All2 (RC P E z g) (hlc E ts h) vs
  | [], h, vs => ⟨fun r => by rw [r.nil_inv]; exact .nil, fun r => by cases r; exact .nil⟩
  | t :: ts, h, vs => ⟨fun r => by
      obtain ⟨v, vs', rfl, h1, h2⟩ := r.uncons
      exact .cons h1 (hlc_rd.1 h2), fun r => by
      obtain ⟨x, h⟩ := h
      simp only [hlc] at r
      cases r with
      | cons h1 h2 => exact RD.cons h1 (hlc_rd.2 h2)⟩
def TE.cells (E : TE) (t : Ty) (x : Den E.S t) : List (SC E) := hlc E (E.flat t) (E.fl t x)
theorem cells_rd {t : Ty} {x : Den E.S t} {vs : List Value} : RD E z (E.flat t) (E.fl t x) vs ↔ All2 (RC P E z g) (E.cells t x) vs := hlc_rd

/-! ### Keys and values of maps -/
/-- Types of one value each. -/
def encH (E : TE) : (ts : List Ty) → HL E.S ts → Option (List Value)
  | [], _ => some []
  | .int k :: ts, h => match encH E ts h.2 with | some l => some (.int k h.1 :: l) | none => none
  | .bool :: ts, h => match encH E ts h.2 with | some l => some (.bool h.1 :: l) | none => none
  | .str :: ts, h => match encH E ts h.2 with | some l => some (S h.1 :: l) | none => none
  | _, _ => none
theorem encH_ok : ∀ {ts : List Ty} {h : HL E.S ts} {vs l : List Value}, RD E z ts h vs → encH E ts h = some l → vs = l
  | [], h, vs, l, hr, he => by rw [hr.nil_inv]; simpa [encH] using he
  | .int k :: ts, h, vs, l, hr, he => by
    obtain ⟨vs', rfl, hq⟩ := hr.int_inv
    simp only [encH] at he
    split at he
    · rename_i l' hl
      obtain rfl := Option.some.inj he
      rw [encH_ok hq hl]
    · cases he
  | .bool :: ts, h, vs, l, hr, he => by
    obtain ⟨vs', rfl, hq⟩ := hr.bool_inv
    simp only [encH] at he
    split at he
    · rename_i l' hl
      obtain rfl := Option.some.inj he
      rw [encH_ok hq hl]
    · cases he
  | .str :: ts, h, vs, l, hr, he => by
    obtain ⟨vs', rfl, hq⟩ := hr.str_inv
    simp only [encH] at he
    split at he
    · rename_i l' hl
      obtain rfl := Option.some.inj he
      rw [encH_ok hq hl]
    · cases he
  | .sl e :: ts, h, vs, l, hr, he => by simp [encH] at he
  | .st n :: ts, h, vs, l, hr, he => by simp [encH] at he
/-- Data that a value of its own stands for. -/
def valT (E : TE) : (t : Ty) → Den E.S t → Option Value
  | .st n, x => match encH E (E.cs n) (E.un n x) with
    | some l => some (.agg l.toArray)
    | none => none
  | .int k, n => some (.int k n)
  | .bool, b => some (.bool b)
  | .str, s => some (S s)
  | .sl _, _ => none
inductive MapR (E : TE) (k v : Ty) : List (Den E.S k) → List (Den E.S v) → List MapEntry → Prop
  | nil : MapR E k v [] [] []
  | cons {x y e ks vs es} (hk : valT E k x = some e.key) (hv : valT E v y = some e.val) (t : MapR E k v ks vs es) : MapR E k v (x :: ks) (y :: vs) (e :: es)
/-- What a map's block holds. -/
structure MapIs (E : TE) (k v : Ty) (ks : List (Den E.S k)) (vs : List (Den E.S v)) (es : Array MapEntry) (clock : Nat) : Prop where
  rel : MapR E k v ks vs es.toList
  lt : ∀ e ∈ es.toList, e.born < clock
  nd : (es.toList.map (·.born)).Nodup
  ks : ks.Nodup
/-! ### Memory -/
/-- The rows of a list's elements. -/
def Rows (E : TE) (z : Fz) (t : Ty) (xs : List (Den E.S t)) (rows : List (List Value)) : Prop := ∀ (i : Nat) x r, xs[i]? = some x → rows[i]? = some r → RD E z (E.flat t) (E.fl t x) r
theorem Rows.le {t : Ty} {xs : List (Den E.S t)} {rows : List (List Value)} (h : Rows E z t xs rows) (hz : z.Le z') : Rows E z' t xs rows := fun i x r h1 h2 => (h i x r h1 h2).le hz
def ObjR (P : Program) (E : TE) (z : Fz) (g : Ga) (w : World) (id : Nat) : Obj E → Prop
  | .box T cs => ∃ l vs, g id = some l ∧ w.heap[l.b]? = some (.cells vs.toArray T (0, 0)) ∧ All2 (RC P E z g) cs vs
  | .row e t xs foc => ∃ l rows, g id = some l ∧ l.n = xs.length ∧ l.c = E.size t ∧ w.ownsRow 0 e l.c (.slice l.A l.n l.cap) l.n rows.flatten ∧ rows.length = l.n ∧ (∀ r ∈ rows, r.length = l.c) ∧ Rows E z t xs rows ∧ ∀ p ∈ foc, getI xs p.2.1 = some p.2.2 ∧ ∃ lq o, g p.1 = some lq ∧ l.A = some ⟨lq.b, o, none⟩ ∧ lq.n = o + p.2.1.toNat * l.c ∧ lq.ix = p.2.1
  | .fr t xs => ∃ l rows, g id = some l ∧ l.n = xs.length ∧ l.c = E.size t ∧ SlF z.F l.c l.A l.n rows z.w ∧ l.n ≤ l.cap ∧ Rows E z t xs rows
  | .fb t x => ∃ l r, g id = some l ∧ z.F l.b ∧ RD E z (E.flat t) (E.fl t x) r ∧ ∀ j u, r[j]? = some u → z.w.cell? ⟨l.b, j, none⟩ = some u
  | .map _ k v ks vs foc => ∃ l es clock, g id = some l ∧ w.heap[l.b]? = some (.map es clock) ∧ MapIs E k v ks vs es clock ∧ ∀ p ∈ foc, ∃ lq, ∃ i : Nat, ∃ e : MapEntry, g p.1 = some lq ∧ es.toList[i]? = some e ∧ e.born = lq.n ∧ ks[i]? = some p.2
def fpO {E : TE} (g : Ga) (id : Nat) : Obj E → Nat → Prop
  | .box .., k => ∃ l, g id = some l ∧ k = l.b
  | .row .., k => ∃ l a, g id = some l ∧ l.A = some a ∧ k = a.block
  | .fr .., _ => False
  | .fb .., _ => False
  | .map .., k => ∃ l, g id = some l ∧ k = l.b
theorem ObjR.loc {id : Nat} {o : Obj E} (h : ObjR P E z g w id o) : ∃ l, g id = some l := by
  cases o with
  | box T cs => obtain ⟨l, _, h1, _⟩ := h; exact ⟨l, h1⟩
  | row e t xs foc => obtain ⟨l, _, h1, _⟩ := h; exact ⟨l, h1⟩
  | fr t xs => obtain ⟨l, _, h1, _⟩ := h; exact ⟨l, h1⟩
  | fb t x => obtain ⟨l, _, h1, _⟩ := h; exact ⟨l, h1⟩
  | map T k v ks vs foc => obtain ⟨l, _, _, h1, _⟩ := h; exact ⟨l, h1⟩
theorem fpO_le {id : Nat} {o : Obj E} {k : Nat} (h : ∃ l, g id = some l) (hg : g.Le g') : fpO g' id o k ↔ fpO g id o k := by
  obtain ⟨l, hl⟩ := h
  have hl' := hg _ _ hl
  cases o with
  | box T cs => exact ⟨fun ⟨l', h1, h2⟩ => ⟨l', by rw [hl'] at h1; rw [hl]; exact h1, h2⟩, fun ⟨l', h1, h2⟩ => ⟨l', hg _ _ h1, h2⟩⟩
  | row e t xs foc => exact ⟨fun ⟨l', a, h1, h2⟩ => ⟨l', a, by rw [hl'] at h1; rw [hl]; exact h1, h2⟩, fun ⟨l', a, h1, h2⟩ => ⟨l', a, hg _ _ h1, h2⟩⟩
  | fr t xs => exact Iff.rfl
  | fb t x => exact Iff.rfl
  | map T k v ks vs foc => exact ⟨fun ⟨l', h1, h2⟩ => ⟨l', by rw [hl'] at h1; rw [hl]; exact h1, h2⟩, fun ⟨l', h1, h2⟩ => ⟨l', hg _ _ h1, h2⟩⟩
theorem ObjR.lt {id : Nat} {o : Obj E} (h : ObjR P E z g w id o) {k : Nat} (hk : fpO g id o k) : k < w.heap.size := by
  cases o with
  | box T cs =>
    obtain ⟨l, vs, h1, h2, _⟩ := h
    obtain ⟨l', h3, rfl⟩ := hk
    rw [h1] at h3; obtain rfl := Option.some.inj h3
    rcases Nat.lt_or_ge l.b w.heap.size with h' | h'
    · exact h'
    · rw [Array.getElem?_eq_none h'] at h2; cases h2
  | row e t xs foc =>
    obtain ⟨l, rows, h1, _, _, h2, _⟩ := h
    obtain ⟨l', a, h3, h4, rfl⟩ := hk
    rw [h1] at h3; obtain rfl := Option.some.inj h3
    exact (World.ownsRow.lt h2 a.block (by rw [h4]; rfl)).2
  | fr t xs => exact hk.elim
  | fb t x => exact hk.elim
  | map T k v ks vs foc =>
    obtain ⟨l, es, c, h1, h2, _⟩ := h
    obtain ⟨l', h3, rfl⟩ := hk
    rw [h1] at h3; obtain rfl := Option.some.inj h3
    rcases Nat.lt_or_ge l.b w.heap.size with h' | h'
    · exact h'
    · rw [Array.getElem?_eq_none h'] at h2; cases h2
/-- An object whose blocks have not turned. -/
theorem ObjR.keep {id : Nat} {o : Obj E} (h : ObjR P E z g w id o) (hz : z.Le z') (hg : g.Le g') (hk : ∀ k, fpO g id o k → w'.heap[k]? = w.heap[k]?) : ObjR P E z' g' w' id o := by
  cases o with
  | box T cs =>
    obtain ⟨l, vs, h1, h2, h3⟩ := h
    exact ⟨l, vs, hg _ _ h1, by rw [hk _ ⟨l, h1, rfl⟩]; exact h2, h3.mono fun _ _ h => RC.le h hz hg⟩
  | row e t xs foc =>
    obtain ⟨l, rows, h1, hn, hc, h2, h3, h4, h5, h6⟩ := h
    refine ⟨l, rows, hg _ _ h1, hn, hc, ⟨h2.1, ?_⟩, h3, h4, h5.le hz, fun p hp => let ⟨h7, lq, o, h8, h9⟩ := h6 p hp; ⟨h7, lq, o, hg _ _ h8, h9⟩⟩
    rcases h2.2 with h' | ⟨b, cap', cur, hv, hb, hh, r⟩
    · exact .inl h'
    · refine .inr ⟨b, cap', cur, hv, hb, ?_, r⟩
      injection hv with hA
      rw [hk b ⟨l, _, h1, hA, rfl⟩]; exact hh
  | fr t xs =>
    obtain ⟨l, rows, h1, hn, hc, h2, h3, h4⟩ := h
    exact ⟨l, rows, hg _ _ h1, hn, hc, SlF.le h2 hz, h3, h4.le hz⟩
  | fb t x =>
    obtain ⟨l, r, h1, h2, h3, h4⟩ := h
    exact ⟨l, r, hg _ _ h1, (hz _ h2).1, h3.le hz, fun j u hu => (World.cell?_of_block (w := z.w) (hz _ h2).2).trans (h4 j u hu)⟩
  | map T k v ks vs foc =>
    obtain ⟨l, es, c, h1, h2, h3, h4⟩ := h
    exact ⟨l, es, c, hg _ _ h1, by rw [hk _ ⟨l, h1, rfl⟩]; exact h2, h3, fun p hp => let ⟨lq, i, e, h5, h6⟩ := h4 p hp; ⟨lq, i, e, hg _ _ h5, h6⟩⟩

/-- What the abstract memory H says of a world w, in a call that began in w0. Bs: blocks of the caller's that may turn; F0: frozen at the start. -/
structure HR (P : Program) (E : TE) (Bs : List Nat) (F0 : Nat → Prop) (w0 w : World) (z : Fz) (g : Ga) (H : Nat → Option (Obj E)) : Prop where
  chg : Chg Bs w0 w
  hold : ∀ id o, H id = some o → ObjR P E z g w id o
  own : ∀ id o k, H id = some o → fpO g id o k → w0.heap.size ≤ k ∨ k ∈ Bs
  apart : ∀ id id' o o' k, id ≠ id' → H id = some o → H id' = some o' → fpO g id o k → ¬ fpO g id' o' k
  fz : z.In w
  fz0 : ∀ k, z.F k → F0 k ∨ w0.heap.size ≤ k ∨ k ∈ Bs
  fza : ∀ id o k, H id = some o → fpO g id o k → ¬ z.F k
section
variable {Bs : List Nat} {F0 : Nat → Prop} {H H' : Nat → Option (Obj E)}
theorem HR.size (h : HR P E Bs F0 w0 w z g H) : w0.heap.size ≤ w.heap.size := h.chg.grow.size
theorem HR.less (h : HR P E Bs F0 w0 w z g H) (hH : ∀ i o, H' i = some o → H i = some o) : HR P E Bs F0 w0 w z g H' :=
  ⟨h.chg, fun i o e => h.hold i o (hH i o e), fun i o k e => h.own i o k (hH i o e), fun i j o p k hn e e' => h.apart i j o p k hn (hH i o e) (hH j p e'), h.fz, h.fz0, fun i o k e => h.fza i o k (hH i o e)⟩
/-- What makes memory alone leaves everything la it was. -/
theorem HR.ext (h : HR P E Bs F0 w0 w z g H) (hx : Ext w w') : HR P E Bs F0 w0 w' z g H := by
  have hb := hx.below
  refine ⟨⟨h.chg.grow.trans (Grow.of_below hb), fun k hk hn => (hb.block k (Nat.lt_of_lt_of_le hk h.size)).trans (h.chg.block k hk hn)⟩, fun i o e => ?_, h.own, h.apart, h.fz.ext hx, h.fz0, h.fza⟩
  exact (h.hold i o e).keep (Fz.Le.refl z) (Ga.Le.refl g) fun k hk => hb.block k ((h.hold i o e).lt hk)
/-- One object turns into another one, or a new one comes. C: the blocks that may have turned. -/
theorem HR.turn (h : HR P E Bs F0 w0 w z g H) (hg : g.Le g') {i i' : Nat} {o' : Obj E} {C : Nat → Prop} (hC : ∀ k, C k → ∃ o, H i = some o ∧ fpO g i o k)
    (hb : Grow w w') (hk : ∀ k, k < w.heap.size → ¬ C k → w'.heap[k]? = w.heap[k]?) (ho : ObjR P E z g' w' i' o') (hf : ∀ k, fpO g' i' o' k → C k ∨ w.heap.size ≤ k)
    (hH : ∀ j o, H' j = some o → (j = i' ∧ o = o') ∨ (j ≠ i' ∧ (j ≠ i ∨ ∀ k, ¬ C k) ∧ H j = some o)) : HR P E Bs F0 w0 w' z g' H' := by
  have ownC : ∀ k, C k → w0.heap.size ≤ k ∨ k ∈ Bs := fun k hc => by obtain ⟨o, h1, h2⟩ := hC k hc; exact h.own i o k h1 h2
  have far : ∀ j o k, (j ≠ i ∨ ∀ k, ¬ C k) → H j = some o → fpO g j o k → ¬ C k := fun j o k hj e hf hc => by
    rcases hj with hj | hj
    · obtain ⟨p, h1, h2⟩ := hC k hc
      exact h.apart j i o p k hj e h1 hf h2
    · exact hj k hc
  have fzC : ∀ k, z.F k → ¬ C k := fun k hz hc => by obtain ⟨o, h1, h2⟩ := hC k hc; exact h.fza i o k h1 h2 hz
  have lt : ∀ j o k, H j = some o → fpO g j o k → k < w.heap.size := fun j o k e hf => (h.hold j o e).lt hf
  have fle : ∀ j o k, H j = some o → (fpO g' j o k ↔ fpO g j o k) := fun j o k e => fpO_le (h.hold j o e).loc hg
  refine ⟨⟨h.chg.grow.trans hb, fun k hk1 hn => (hk k (Nat.lt_of_lt_of_le hk1 h.size) fun hc => ?_).trans (h.chg.block k hk1 hn)⟩, fun j o e => ?_, fun j o k e hfp => ?_, fun j j' o p k hn e e' hfp hfp' => ?_, fun k hz => ?_, h.fz0, fun j o k e hfp hz => ?_⟩
  · rcases ownC k hc with h1 | h1
    · omega
    · exact hn h1
  · rcases hH j o e with ⟨rfl, rfl⟩ | ⟨_, h2, h3⟩
    · exact ho
    · exact (h.hold j o h3).keep (Fz.Le.refl z) hg fun k hfk => hk k (lt j o k h3 hfk) (far j o k h2 h3 hfk)
  · rcases hH j o e with ⟨rfl, rfl⟩ | ⟨_, h2, h3⟩
    · rcases hf k hfp with h1 | h1
      · exact ownC k h1
      · exact .inl (Nat.le_trans h.size h1)
    · exact h.own j o k h3 ((fle j o k h3).1 hfp)
  · rcases hH j o e with ⟨rfl, rfl⟩ | ⟨h1, h2, h3⟩ <;> rcases hH j' p e' with ⟨rfl, rfl⟩ | ⟨h1', h2', h3'⟩
    · exact hn rfl
    · have hfp' := (fle j' p k h3').1 hfp'
      rcases hf k hfp with hq | hq
      · exact far j' p k h2' h3' hfp' hq
      · have := lt j' p k h3' hfp'; omega
    · have hfp := (fle j o k h3).1 hfp
      rcases hf k hfp' with hq | hq
      · exact far j o k h2 h3 hfp hq
      · have := lt j o k h3 hfp; omega
    · exact h.apart j j' o p k hn h3 h3' ((fle j o k h3).1 hfp) ((fle j' p k h3').1 hfp')
  · have := h.fz k hz
    exact ⟨Nat.lt_of_lt_of_le this.1 hb.size, (hk k this.1 (fzC k hz)).trans this.2⟩
  · rcases hH j o e with ⟨rfl, rfl⟩ | ⟨_, h2, h3⟩
    · rcases hf k hfp with hq | hq
      · exact fzC k hz hq
      · have := (h.fz k hz).1; omega
    · exact h.fza j o k h3 ((fle j o k h3).1 hfp) hz
/-- A new object, all of its blocks new. -/
theorem HR.add (h : HR P E Bs F0 w0 w z g H) (hx : Ext w w') {i : Nat} {l : Loc} {o : Obj E} (hi : g i = none) (ho : ObjR P E z (g.put i l) w' i o) (hf : ∀ k, fpO (g.put i l) i o k → w.heap.size ≤ k)
    (hH : ∀ j p, H' j = some p → (j = i ∧ p = o) ∨ (j ≠ i ∧ H j = some p)) : HR P E Bs F0 w0 w' z (g.put i l) H' := by
  have hb := hx.below
  refine h.turn (Ga.le_put hi) (i := i) (i' := i) (C := fun _ => False) (fun _ h => h.elim) (Grow.of_below hb) (fun k hk _ => hb.block k hk) ho (fun k hk => .inr (hf k hk)) fun j p e => ?_
  rcases hH j p e with h1 | ⟨h1, h2⟩
  · exact .inl h1
  · exact .inr ⟨h1, .inr fun _ h => h, h2⟩
/-- More is frozen: what an object of the call's own holds. -/
def Fz.grow (z : Fz) (F : Nat → Prop) (w : World) : Fz := ⟨fun k => z.F k ∨ F k, w⟩
theorem Fz.In.grow_le {z : Fz} {w : World} (h : z.In w) (F : Nat → Prop) : z.Le (z.grow F w) := fun k hk => ⟨.inl hk, (h k hk).2⟩
theorem HR.freeze (h : HR P E Bs F0 w0 w z g H) {i : Nat} {e : TypeId} {t : Ty} {xs : List (Den E.S t)} {foc : List (Nat × Int × Den E.S t)} (hi : H i = some (.row e t xs foc))
    (hH : ∀ j o, H' j = some o → (j = i ∧ o = .fr t xs) ∨ (j ≠ i ∧ H j = some o)) : HR P E Bs F0 w0 w (z.grow (fun k => fpO g i (.row e t xs foc) k) w) g H' := by
  have hz := h.fz.grow_le (fun k => fpO g i (.row e t xs foc) k)
  refine ⟨h.chg, fun j o ej => ?_, fun j o k ej hfp => ?_, fun j j' o p k hn ej ej' hfp hfp' => ?_, fun k hk => ?_, fun k hk => ?_, fun j o k ej hfp hk => ?_⟩
  · rcases hH j o ej with ⟨rfl, rfl⟩ | ⟨_, h3⟩
    · obtain ⟨l, rows, h1, hn, hc, h2, h3, h4, h5, _⟩ := h.hold _ _ hi
      have hr := row_reads (w := w) (e := e) (cap := l.cap) ⟨h2, h3, h4⟩
      refine ⟨l, rows, h1, hn, hc, ⟨hr.1, fun hpos => ?_⟩, (Own.cap_le h2).1, h5.le hz⟩
      obtain ⟨b, off, hA, ⟨a, ha, hb⟩, hcell⟩ := hr.2 hpos
      exact ⟨b, off, hA, .inr ⟨l, a, h1, ha, hb⟩, hcell⟩
    · exact (h.hold j o h3).keep hz (Ga.Le.refl g) fun _ _ => rfl
  · rcases hH j o ej with ⟨rfl, rfl⟩ | ⟨_, h3⟩
    · exact hfp.elim
    · exact h.own j o k h3 hfp
  · rcases hH j o ej with ⟨rfl, rfl⟩ | ⟨_, h3⟩
    · exact hfp
    · rcases hH j' p ej' with ⟨rfl, rfl⟩ | ⟨_, h3'⟩
      · exact hfp'
      · exact h.apart j j' o p k hn h3 h3' hfp hfp'
  · rcases hk with hk | hk
    · exact ⟨(h.fz k hk).1, rfl⟩
    · exact ⟨(h.hold _ _ hi).lt hk, rfl⟩
  · rcases hk with hk | hk
    · exact h.fz0 k hk
    · exact .inr (h.own _ _ k hi hk)
  · rcases hH j o ej with ⟨rfl, rfl⟩ | ⟨hn, h3⟩
    · exact hfp
    · rcases hk with hk | hk
      · exact h.fza j o k h3 hfp hk
      · exact h.apart j i o _ k hn h3 hi hfp hk
theorem HR.freezeBox (h : HR P E Bs F0 w0 w z g H) {i : Nat} {T : TypeId} {cs : List (SC E)} {t : Ty} {x : Den E.S t} (hi : H i = some (.box T cs)) (hd : ∀ vs, All2 (RC P E z g) cs vs → RD E z (E.flat t) (E.fl t x) vs)
    (hH : ∀ j o, H' j = some o → (j = i ∧ o = .fb t x) ∨ (j ≠ i ∧ H j = some o)) : HR P E Bs F0 w0 w (z.grow (fun k => fpO g i (.box T cs) k) w) g H' := by
  have hz := h.fz.grow_le (fun k => fpO g i (.box T cs) k)
  refine ⟨h.chg, fun j o ej => ?_, fun j o k ej hfp => ?_, fun j j' o p k hn ej ej' hfp hfp' => ?_, fun k hk => ?_, fun k hk => ?_, fun j o k ej hfp hk => ?_⟩
  · rcases hH j o ej with ⟨rfl, rfl⟩ | ⟨_, h3⟩
    · obtain ⟨l, vs, h1, h2, h3⟩ := h.hold _ _ hi
      refine ⟨l, vs, h1, .inr ⟨l, h1, rfl⟩, (hd vs h3).le hz, fun q u hu => ?_⟩
      show w.cell? _ = _
      rw [cell_of_row w l.b q vs.toArray T (0, 0) h2]
      simpa using hu
    · exact (h.hold j o h3).keep hz (Ga.Le.refl g) fun _ _ => rfl
  · rcases hH j o ej with ⟨rfl, rfl⟩ | ⟨_, h3⟩
    · exact hfp.elim
    · exact h.own j o k h3 hfp
  · rcases hH j o ej with ⟨rfl, rfl⟩ | ⟨_, h3⟩
    · exact hfp
    · rcases hH j' p ej' with ⟨rfl, rfl⟩ | ⟨_, h3'⟩
      · exact hfp'
      · exact h.apart j j' o p k hn h3 h3' hfp hfp'
  · rcases hk with hk | hk
    · exact ⟨(h.fz k hk).1, rfl⟩
    · exact ⟨(h.hold _ _ hi).lt hk, rfl⟩
  · rcases hk with hk | hk
    · exact h.fz0 k hk
    · exact .inr (h.own _ _ k hi hk)
  · rcases hH j o ej with ⟨rfl, rfl⟩ | ⟨hn, h3⟩
    · exact hfp
    · rcases hk with hk | hk
      · exact h.fza j o k h3 hfp hk
      · exact h.apart j i o _ k hn h3 hi hfp hk
end
end
end Rt
end Go
