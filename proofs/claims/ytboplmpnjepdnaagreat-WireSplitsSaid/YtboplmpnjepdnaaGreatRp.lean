/-
  The second engine, sixteenth text: states, and lists of operations, some of them guarded. No program in sight.
-/
import Derived.Test.YtboplmpnjepdnaaGreatRr
import Derived.Test.YtboplmpnjepdnaaGreatDr
namespace Go
namespace Rt
open Go.RowKit

/-! ### States -/
/-- What slots and numbers stand for, apart from what has turned since. -/
structure Ba (E : TE) where
  L : Nat → Option (SV E)
  H : Nat → Option (Obj E)
  /-- numbers below are those of the parameters: they stay where they are -/
  lo : Nat
structure St (E : TE) where
  env : List (Nat × Option (SV E))
  vis : Option (List Nat)
  heap : Chs E
  hvis : Option (List Nat)
  nx : Nat
def memN (t : Nat) : List Nat → Bool
  | [] => false
  | u :: l => match Nat.beq t u with
    | true => true
    | false => memN t l
def seen : Option (List Nat) → Nat → Bool
  | none, _ => true
  | some l, t => memN t l
def aget {α : Type} (t : Nat) : List (Nat × α) → Option α
  | [] => none
  | (u, v) :: l => match Nat.beq t u with
    | true => some v
    | false => aget t l
variable {E : TE}
def St.L (b : Ba E) (s : St E) (t : Nat) : Option (SV E) := match aget t s.env with
  | some v => v
  | none => match seen s.vis t with
    | true => b.L t
    | false => none
def St.H (b : Ba E) (s : St E) : Nat → Option (Obj E) := upH (fun i => match seen s.hvis i with
  | true => b.H i
  | false => none) s.heap
/-- Behind an operation. -/
def St.after (N : Nat) (s : St E) (o : Oper) (v : Option (SV E)) (u : Chs E) : Option (St E) := match o.dst with
  | none => some { s with heap := u ++ s.heap, nx := s.nx + 1 + u.length }
  | some d => match Nat.blt d N with
    | true => some { s with env := (d, v) :: s.env, heap := u ++ s.heap, nx := s.nx + 1 + u.length }
    | false => none
/-- A state that begins where another one stands. -/
def St.base (b : Ba E) (s : St E) : Ba E := ⟨s.L b, s.H b, b.lo⟩
def St.new (nx : Nat) : St E := ⟨[], none, [], none, nx⟩

/-! ### Guards -/
/-- The guard under which operations stand: the operation that decides, what it must say, its slot. -/
abbrev Gd := Option (Nat × Bool × Nat)
def guardOK (o : Oper) : Gd → Bool
  | none => match o.guard with
    | none => true
    | some _ => false
  | some (j, w, _) => match o.guard with
    | none => false
    | some (j', w') => Nat.beq j j' && (match w, w' with | true, true => true | false, false => true | _, _ => false)
def dstOK (o : Oper) : Gd → Bool
  | none => true
  | some (_, _, d) => match o.dst with
    | none => true
    | some d' => !(Nat.beq d d')
def splitPick (d : Nat) : List Oper → Option (List Oper × Oper × List Oper)
  | [] => none
  | o :: r => match o.op with
    | .pick (.tmp d') _ _ => match Nat.beq d d' with
      | true => some ([], o, r)
      | false => match splitPick d r with
        | some (l, p, q) => some (o :: l, p, q)
        | none => none
    | _ => match splitPick d r with
      | some (l, p, q) => some (o :: l, p, q)
      | none => none
/-- Operations that hang on this one follow: its slot, what it must say, these operations, what chooses at the end, and the others. -/
def groupOf (o : Oper) (idx : Nat) : List Oper → Option (Nat × Bool × List Oper × Oper × List Oper)
  | [] => none
  | o2 :: r => match o2.guard, o.dst with
    | some (j, w), some d => match Nat.beq j idx with
      | true => match splitPick d (o2 :: r) with
        | some (l, p, q) => some (d, w, l, p, q)
        | none => none
      | false => none
    | _, _ => none
def dsts : List Oper → List Nat
  | [] => []
  | o :: l => match o.dst with
    | some d => d :: dsts l
    | none => dsts l
def keysIn (l : List Nat) : List (Nat × Option (SV E)) → Bool
  | [] => true
  | p :: r => memN p.1 l && keysIn l r
def keysFrom (n : Nat) : Chs E → Bool
  | [] => true
  | p :: r => Nat.ble n p.1 && keysFrom n r
/-- Operations that cannot fail. -/
def totalB (P : Program) (o : Oper) : Bool := match o.op with
  | .binOp op t _ y _ => match op with
    | .add => match P.underlying t with | some (.int _) => true | _ => false
    | .quo | .rem | .shl | .shr => Operand.isC y
    | _ => true
  | .move _ | .assign _ | .pick .. | .load .. | .fieldAddr .. | .field .. | .unOp .. | .convert .. | .extract .. | .nilCheck .. => true
  | .call { callee := .builtin .len, args := _, argTypes := _ } => true
  | .call { callee := .builtin .max, args := _, argTypes := _ } => true
  | .call { callee := .builtin .min, args := _, argTypes := _ } => true
  | _ => false
def totalL (P : Program) : List Oper → Bool
  | [] => true
  | o :: l => totalB P o && totalL P l
/-- Operations that are left out all at once: each hangs on the one that decides, or on one of those left out. -/
def skipB (idx d : Nat) (w : Bool) : List Oper → Nat → Bool
  | [], _ => true
  | o :: l, i => (match o.guard, o.dst with
    | some (j, w'), some d' => ((Nat.beq j idx && (match w, w' with | true, true => true | false, false => true | _, _ => false)) || (Nat.blt idx j && Nat.blt j i)) && !(Nat.beq d d')
    | _, _ => false) && skipB idx d w l (i + 1)
def notIn (g : Gd) (l : List Nat) : Bool := match g with
  | none => true
  | some (_, _, d) => !(memN d l)
def boolSV (b : Bool) : SV E := .v (.one (.dt .bool b))
def isBoolC (w : Bool) : Operand → Bool
  | .const (.bool b) => match w, b with | true, true => true | false, false => true | _, _ => false
  | _ => false
/-- The numbers that a group may use. -/
def roomG (body : List Oper) : Nat := 1000 * (body.length + 1)
/-- What a group of guarded operations yields. -/
def groupEnd (bs : Ba E) (nx lim : Nat) (ds : List Nat) (x : Operand) (s : St E) : Option Bool :=
  match keysIn ds s.env && keysFrom nx s.heap && Nat.ble s.nx (nx + lim), s.vis, s.hvis, opS E (s.L bs) x with
  | true, none, none, some (.v (.one (.dt .bool e))) => some e
  | _, _, _, _ => none
def clear (ds : List Nat) : List (Nat × Option (SV E)) := ds.map fun d => (d, none)
def picked {α : Type} (w : Bool) (x y : α) : α := match w with
  | true => x
  | false => y
/-- How an operation is carried out. -/
abbrev Ev (E : TE) := (Nat → Option (SV E)) → (Nat → Option (Obj E)) → Nat → Oper → (R : Type) → (Option (SV E) → Chs E → Option R) → Option R
def evList (P : Program) (E : TE) (ev : Ev E) (N : Nat) : Nat → (R : Type) → Gd → List Oper → Nat → Ba E → St E → (St E → Option R) → Option R
  | 0, _, _, _, _, _, _, _ => none
  | _ + 1, _, _, [], _, _, s, k => k s
  | n + 1, R, gd, o :: rest, idx, b, s, k =>
    match guardOK o gd && dstOK o gd with
    | false => none
    | true => ev (s.L b) (s.H b) s.nx o R fun v u => match s.after N o v u with
      | none => none
      | some s1 => match groupOf o idx rest with
        | none => evList P E ev N n R gd rest (idx + 1) b s1 k
        | some (d, w, body, pk, rest') => match s1.L b d, pk.op, pk.dst with
          | some (.v (.one (.dt .bool c))), .pick _ x y, some pd =>
            match guardOK pk gd && dstOK pk gd && notIn gd (dsts body) && Nat.blt pd N && skipB idx d w body (idx + 1) && isBoolC (!w) (picked w y x) with
            | false => none
            | true =>
              match totalL P body with
              | true => match evList P E ev N n Bool (some (idx, w, d)) body (idx + 1) (s1.base b) (St.new s1.nx) (groupEnd (s1.base b) s1.nx (roomG body) (dsts body) (picked w x y)) with
                | none => none
                | some e => evList P E ev N n R gd rest' (idx + 1 + body.length + 1) b { s1 with env := (pd, some (boolSV (picked w (c && e) (c || e)))) :: (clear (dsts body) ++ s1.env), nx := s1.nx + roomG body } k
              | false => Option.bind (picked w
                (bif c then evList P E ev N n Bool (some (idx, w, d)) body (idx + 1) (s1.base b) (St.new s1.nx) (groupEnd (s1.base b) s1.nx (roomG body) (dsts body) x) else some false)
                (bif c then some true else evList P E ev N n Bool (some (idx, w, d)) body (idx + 1) (s1.base b) (St.new s1.nx) (groupEnd (s1.base b) s1.nx (roomG body) (dsts body) y))) fun e =>
                  evList P E ev N n R gd rest' (idx + 1 + body.length + 1) b { s1 with env := (pd, some (boolSV e)) :: (clear (dsts body) ++ s1.env), nx := s1.nx + roomG body } k
          | _, _, _ => none
/-- A region that is carried out in the order of its text. -/
noncomputable def evReg (P : Program) (E : TE) (eqs : List (Nat × Nat)) (tab : Tab E) (N : Nat) {R : Type} (l : List Oper) (b : Ba E) (s : St E) (k : St E → Option R) : Option R :=
  evList P E (fun L H nx o _ k => evOp P E eqs tab L H nx o k) N (l.length + 1) R none l 0 b s k
/-! ### Regions that draw their order -/
/-- Marks of operations: 0 quiet, 1 makes memory, 2 turns memory, 4 reads no memory. -/
def tlOf : Nat → List Nat → List Nat
  | _, [] => []
  | i, f :: fl => match Nat.beq f 2 with
    | true => i :: tlOf (i + 1) fl
    | false => tlOf (i + 1) fl
def frOf : Nat → List Nat → List Nat
  | _, [] => []
  | i, f :: fl => match Nat.beq f 4 with
    | true => i :: frOf (i + 1) fl
    | false => frOf (i + 1) fl
/-- The quiet ones ahead of the first other one. -/
def quietN : List Nat → Nat
  | [] => 0
  | f :: fl => match Nat.beq f 0 with
    | true => quietN fl + 1
    | false => 0
def qOrd : Nat → List Oper → List (Nat × Bool)
  | _, [] => []
  | i, _ :: l => (i, false) :: qOrd (i + 1) l
/-- What comes behind them, apart from what is taken ahead. -/
def trOf (hs : List Nat) : Nat → List Oper → List Nat → List (Nat × Oper × Nat)
  | i, o :: l, f :: fl => match memN i hs with
    | true => trOf hs (i + 1) l fl
    | false => (i, o, f) :: trOf hs (i + 1) l fl
  | _, _, _ => []
def hOrd : List Nat → List (Nat × Bool)
  | [] => []
  | i :: l => (i, false) :: hOrd l
def quietM (f : Nat) : Bool := Nat.beq f 0 || Nat.beq f 4
def trOrd : List (Nat × Oper × Nat) → List (Nat × Bool)
  | [] => []
  | t :: l => (t.1, !(quietM t.2.2)) :: trOrd l
/-- Quiet operations that are taken ahead. -/
noncomputable def evH (P : Program) (E : TE) (eqs : List (Nat × Nat)) (tab : Tab E) (N : Nat) {R : Type} (b : Ba E) (all : List Oper) (fr : List Nat) : List Nat → St E → (St E → Option R) → Option R
  | [], s, k => k s
  | i :: hs, s, k => match all[i]? with
    | none => none
    | some o => match o.guard with
      | some _ => none
      | none => match fr.contains i with
        | true => qFree P E eqs (s.L b) o fun v up => match up with
          | some _ => none
          | none => match s.after N o (some v) [] with
            | some s1 => evH P E eqs tab N b all fr hs s1 k
            | none => none
        | false => evOpQ P E eqs tab (s.L b) (s.H b) s.nx o fun v u => match s.after N o v u with
          | some s1 => evH P E eqs tab N b all fr hs s1 k
          | none => none
noncomputable def evB (P : Program) (E : TE) (eqs : List (Nat × Nat)) (tab : Tab E) (N : Nat) (fm : Bool) {R : Type} (b : Ba E) : List (Nat × Oper × Nat) → St E → (St E → Option R) → Option R
  | [], s, k => k s
  | (_, o, f) :: l, s, k => match o.guard with
    | some _ => none
    | none => match quietM f with
      | true => qFree P E eqs (s.L b) o fun v up => match up with
        | some _ => none
        | none => match s.after N o (some v) [] with
          | some s1 => evB P E eqs tab N fm b l s1 k
          | none => none
      | false => match Nat.beq f 2 || (fm || makesB tab (s.L b) o) with
        | false => none
        | true => evOp P E eqs tab (s.L b) (s.H b) s.nx o fun v u => match s.after N o v u with
          | some s1 => evB P E eqs tab N fm b l s1 k
          | none => none
/-- Memory without some objects; these alone. -/
def hideH (S : List Nat) (H : Nat → Option (Obj E)) (i : Nat) : Option (Obj E) := match memN i S with
  | true => none
  | false => H i
def showH (S : List Nat) (H : Nat → Option (Obj E)) (i : Nat) : Option (Obj E) := match memN i S with
  | true => match H i with
    | some (.box T cs) => some (.box T cs)
    | _ => none
  | false => none
def boxesB (H : Nat → Option (Obj E)) : List Nat → Bool
  | [] => true
  | i :: l => (match H i with
    | some (.box _ _) => true
    | _ => false) && boxesB H l
/-- A region that draws its order. fm: its quiet operations read nothing of some variables, and its loud ones turn these variables alone. -/
noncomputable def evDraw (P : Program) (E : TE) (eqs : List (Nat × Nat)) (tab : Tab E) (N : Nat) {R : Type} (l : List Oper) (fl hs : List Nat) (fm : Bool) (S : List Nat) (b : Ba E) (s : St E) (k : St E → Option R) : Option R :=
  match P.follows .mixedOrders && mixBI .any l.toArray (tlOf 0 fl) (frOf 0 fl) (qOrd 0 (l.take (quietN fl)) ++ (hOrd hs ++ trOrd (trOf hs (quietN fl) (l.drop (quietN fl)) (fl.drop (quietN fl))))) with
  | false => none
  | true => match fm with
    | false => evList P E (fun L H nx o _ k => evOpQ P E eqs tab L H nx o k) N (l.length + 1) R none (l.take (quietN fl)) 0 b s fun s1 => evH P E eqs tab N b l (frOf 0 fl) hs s1 fun s2 => evB P E eqs tab N false b (trOf hs (quietN fl) (l.drop (quietN fl)) (fl.drop (quietN fl))) s2 k
    | true => evList P E (fun L H nx o _ k => evOpQ P E eqs tab L H nx o k) N (l.length + 1) R none (l.take (quietN fl)) 0 ⟨s.L b, hideH S (s.H b), b.lo⟩ (St.new s.nx) fun s1 =>
      evH P E eqs tab N ⟨s.L b, hideH S (s.H b), b.lo⟩ l (frOf 0 fl) hs s1 fun s2 => match s2.vis, s2.hvis, s2.heap with
        | none, none, [] => evB P E eqs tab N true ⟨s2.L ⟨s.L b, hideH S (s.H b), b.lo⟩, showH S (s.H b), b.lo⟩ (trOf hs (quietN fl) (l.drop (quietN fl)) (fl.drop (quietN fl))) (St.new s2.nx) fun s3 => match s3.vis, s3.hvis, boxesB (upH (showH S (s.H b)) s3.heap) S with
          | none, none, true => k { s with env := s3.env ++ (s2.env ++ s.env), heap := s3.heap ++ s.heap, nx := s3.nx }
          | _, _, _ => none
        | _, _, _ => none
def dstN (o : Oper) : Nat := match o.dst with
  | some d => d
  | none => 0
/-- A variable that is made at any time. -/
def floatB (P : Program) (N : Nat) (o : Oper) (ds : List Nat) : Bool := match o.op, o.guard, o.dst with
  | .alloc T, none, some d => !(memN d ds) && (Nat.blt d N && (match zeroOf P T with | some _ => true | none => false))
  | _, _, _ => false
def dstsT : List (Nat × Oper × Nat) → List Nat
  | [] => []
  | t :: l => match t.2.1.dst with
    | some d => d :: dstsT l
    | none => dstsT l
/-- A region that draws its order; one variable is made at any time ahead of what is stored into it (the p-th operation behind the quiet ones). -/
noncomputable def evFloat (P : Program) (E : TE) (eqs : List (Nat × Nat)) (tab : Tab E) (N : Nat) {R : Type} (l : List Oper) (fl hs : List Nat) (p : Nat) (b : Ba E) (s : St E) (k : St E → Option R) : Option R :=
  match (trOf hs (quietN fl) (l.drop (quietN fl)) (fl.drop (quietN fl)))[p]? with
  | none => none
  | some t => match P.follows .mixedOrders && (floatB P N t.2.1 (dstsT ((trOf hs (quietN fl) (l.drop (quietN fl)) (fl.drop (quietN fl))).take p)) && Nat.beq t.2.2 1) &&
      mixBF .any l.toArray (tlOf 0 fl) (frOf 0 fl) t.1 (qOrd 0 (l.take (quietN fl)) ++ (hOrd hs ++ trOrd ((trOf hs (quietN fl) (l.drop (quietN fl)) (fl.drop (quietN fl))).take p))) (trOrd ((trOf hs (quietN fl) (l.drop (quietN fl)) (fl.drop (quietN fl))).drop (p + 1))) with
    | false => none
    | true => evList P E (fun L H nx o _ k => evOpQ P E eqs tab L H nx o k) N (l.length + 1) R none (l.take (quietN fl)) 0 b s fun s1 => evH P E eqs tab N b l (frOf 0 fl) hs s1 fun s2 =>
        evB P E eqs tab N false b ((trOf hs (quietN fl) (l.drop (quietN fl)) (fl.drop (quietN fl))).take p ++ t :: (trOf hs (quietN fl) (l.drop (quietN fl)) (fl.drop (quietN fl))).drop (p + 1)) { s2 with env := (dstN t.2.1, none) :: s2.env } k
end Rt
end Go
