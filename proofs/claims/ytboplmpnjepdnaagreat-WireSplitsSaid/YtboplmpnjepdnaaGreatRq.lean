/-
  The second engine, seventeenth text: what meets again: tests, blocks, loops. No program in sight.
-/
import Derived.Test.YtboplmpnjepdnaaGreatRp
namespace Go
namespace Rt
open Go.RowKit

variable {E : TE}
/-- How a cell is met: as data of a type, or as a number of the new memory. -/
inductive CP where
  | v (t : Ty)
  | own (j : Nat)
  | ptr (j : Nat)
  | mp (j : Nat)
inductive VP where
  /-- data of a type -/
  | d (t : Ty)
  | one (c : CP)
  | agg (l : List CP)
inductive OP where
  /-- a variable that holds data -/
  | box (T : TypeId) (t : Ty)
  /-- a variable, cell by cell -/
  | cells (T : TypeId) (l : List CP)
  /-- a row of one's own; pointers to its elements: their numbers, and a slot that holds one -/
  | row (e : TypeId) (t : Ty) (foc : List (Nat × Nat))
  /-- a map -/
  | map (T : TypeId) (k v : Ty)
/-- What meets: the slots that differ; the memory that differs, by its number (and whether it had that number before); slots, memory and other numbers that stay; the next number. -/
structure JP where
  slots : List (Nat × VP)
  objs : List (Nat × Bool × OP)
  keep : List Nat
  hkeep : List Nat
  gkeep : List Nat
  nx : Nat
def cpT : List CP → List Ty
  | [] => []
  | .v t :: l => t :: cpT l
  | _ :: l => cpT l
def VP.T : VP → List Ty
  | .d t => [t]
  | .one c => cpT [c]
  | .agg l => cpT l
def OP.T : OP → List Ty
  | .box _ t => [t]
  | .cells _ l => cpT l
  | .row _ t _ => [.sl t]
  | .map _ k v => [.sl k, .sl v]
def slotsT : List (Nat × VP) → List Ty
  | [] => []
  | p :: l => p.2.T ++ slotsT l
def objsT : List (Nat × Bool × OP) → List Ty
  | [] => []
  | p :: l => p.2.2.T ++ objsT l
def JP.T (j : JP) : List Ty := slotsT j.slots ++ objsT j.objs
def hap {S : Nat → Type} : {ts us : List Ty} → HL S ts → HL S us → HL S (ts ++ us)
  | [], _, _, h => h
  | _ :: _, _, a, h => (a.1, hap a.2 h)
def hfst {S : Nat → Type} : (ts us : List Ty) → HL S (ts ++ us) → HL S ts
  | [], _, _ => ()
  | _ :: ts, us, h => (h.1, hfst ts us h.2)
def hsnd {S : Nat → Type} : (ts us : List Ty) → HL S (ts ++ us) → HL S us
  | [], _, h => h
  | _ :: ts, us, h => hsnd ts us h.2
/-! ### Getting ready -/
def rowOf (j : Nat) : List (Nat × Bool × OP) → Option (TypeId × Ty)
  | [] => none
  | (i, _, .row e t _) :: l => match Nat.beq i j with
    | true => some (e, t)
    | false => rowOf j l
  | _ :: l => rowOf j l
/-- Cells that are nil become rows of one's own. -/
def prepW {α : Type} : List (Option (TypeId × Ty)) → List (SC E) → Nat → (List (SC E) → Chs E → Nat → α) → α
  | some (e, ty) :: ps, .nils :: cs, n, k => prepW ps cs (n + 1) fun l u m => k (.own n :: l) (u ++ [(n, some (.row e ty [] []))]) m
  | _ :: ps, c :: cs, n, k => prepW ps cs n fun l u m => k (c :: l) u m
  | _, cs, n, k => k cs [] n
def wantC (objs : List (Nat × Bool × OP)) : List CP → List (Option (TypeId × Ty))
  | .own j :: ps => rowOf j objs :: wantC objs ps
  | _ :: ps => none :: wantC objs ps
  | [] => []
def wantM : Mk → List Ty → List (Option (TypeId × Ty))
  | some e :: ms, .sl t :: ts => some (e, t) :: wantM ms ts
  | _ :: ms, _ :: ts => none :: wantM ms ts
  | _, _ => []
def prepV (E : TE) {α : Type} (t : Ty) (m : Mk) (x : V1 E) (n : Nat) (k : V1 E → Chs E → Nat → α) : α :=
  match x with
  | .agg l => prepW (wantM m (E.flat t)) l n fun l u n' => k (.agg l) u n'
  | .one c => prepW (wantM m (E.flat t)) [c] n fun l u n' => match l with
    | [c'] => k (.one c') u n'
    | _ => k (.one c) [] n
def prepRs (E : TE) {α : Type} : Rs → List (V1 E) → Nat → (List (V1 E) → Chs E → Nat → α) → α
  | (t, m) :: rs, x :: xs, n, k => prepV E t m x n fun x' u n1 => prepRs E rs xs n1 fun xs' u' n2 => k (x' :: xs') (u' ++ u) n2
  | _, xs, n, k => k xs [] n
/-- A slice that is nil becomes a row of one's own. -/
def prepS (b : Ba E) (s : St E) (objs : List (Nat × Bool × OP)) : Nat × VP → St E
  | (t, .one (.own j)) => match s.L b t, rowOf j objs with
    | some (.v (.one .nils)), some (e, ty) => { s with env := (t, some (.v (.one (.own s.nx)))) :: s.env, heap := (s.nx, some (.row e ty [] [])) :: s.heap, nx := s.nx + 1 }
    | _, _ => s
  | (t, .d _) => match s.L b t with
    | some (.v x) => { s with heap := frzL (s.H b) x.cs ++ s.heap }
    | _ => s
  | (t, .agg ps) => match s.L b t with
    | some (.v (.agg cs)) => prepW (wantC objs ps) cs s.nx fun l u m => { s with env := (t, some (.v (.agg l))) :: s.env, heap := u ++ s.heap, nx := m }
    | _ => s
  | _ => s
def prepL (b : Ba E) (objs : List (Nat × Bool × OP)) : List (Nat × VP) → St E → St E
  | [], s => s
  | p :: l, s => prepL b objs l (prepS b s objs p)
def prepO1 (b : Ba E) (objs : List (Nat × Bool × OP)) (s : St E) : Nat × Bool × OP → St E
  | (j, true, .cells _ ps) => match s.H b j with
    | some (.box T cs) => prepW (wantC objs ps) cs s.nx fun l u m => { s with heap := (j, some (.box T l)) :: (u ++ s.heap), nx := m }
    | _ => s
  | _ => s
def prepO (b : Ba E) (objs : List (Nat × Bool × OP)) : List (Nat × Bool × OP) → St E → St E
  | [], s => s
  | p :: l, s => prepO b objs l (prepO1 b objs s p)
/-! ### Numbers found -/
abbrev Bd := List (Nat × Nat)
def addB (j id : Nat) (bs : Bd) : Option Bd := match aget j bs with
  | some id' => match Nat.beq id id' with
    | true => some bs
    | false => none
  | none => some ((j, id) :: bs)
def bindC : List CP → List (SC E) → Bd → Option Bd
  | [], [], bs => some bs
  | .v _ :: ps, _ :: cs, bs => bindC ps cs bs
  | .own j :: ps, .own id :: cs, bs => match addB j id bs with
    | some bs => bindC ps cs bs
    | none => none
  | .ptr j :: ps, .ptr id 0 :: cs, bs => match addB j id bs with
    | some bs => bindC ps cs bs
    | none => none
  | .mp j :: ps, .mp id :: cs, bs => match addB j id bs with
    | some bs => bindC ps cs bs
    | none => none
  | _, _, _ => none
def bindS (L : Nat → Option (SV E)) : List (Nat × VP) → Bd → Option Bd
  | [], bs => some bs
  | (_, .d _) :: l, bs => bindS L l bs
  | (t, .one p) :: l, bs => match L t with
    | some (.v (.one c)) => match bindC [p] [c] bs with
      | some bs => bindS L l bs
      | none => none
    | _ => none
  | (t, .agg ps) :: l, bs => match L t with
    | some (.v (.agg cs)) => match bindC ps cs bs with
      | some bs => bindS L l bs
      | none => none
    | _ => none
def selfB (self : Bool) (j : Nat) (bs : Bd) : Option Bd := match self with
  | true => addB j j bs
  | false => some bs
def bindO (H : Nat → Option (Obj E)) : List (Nat × Bool × OP) → Bd → Option Bd
  | [], bs => some bs
  | (j, self, p) :: l, bs => match selfB self j bs with
    | some bs => match p with
      | .cells _ ps => match aget j bs with
        | some id => match H id with
          | some (.box _ cs) => match bindC ps cs bs with
            | some bs => bindO H l bs
            | none => none
          | _ => none
        | none => none
      | _ => bindO H l bs
    | none => none
/-! ### Data found -/
def onlyIf {α : Type} : Bool → Option α → Option α
  | true, x => x
  | false, _ => none
theorem onlyIf_some {α : Type} {c : Bool} {x : Option α} {y : α} (h : onlyIf c x = some y) : c = true ∧ x = some y := by
  cases c with
  | true => exact ⟨rfl, h⟩
  | false => cases h
def castO {S : TE} (t : Ty) {t' : Ty} (xs : List (Den S.S t')) : Option (List (Den S.S t)) := if h : t' = t then some (castL h xs) else none
theorem castO_some {S : TE} {t t' : Ty} {xs : List (Den S.S t')} {ys : List (Den S.S t)} (h : castO t xs = some ys) : ∃ e : t' = t, ys = castL e xs := by
  unfold castO at h
  split at h
  · rename_i e; exact ⟨e, (Option.some.inj h).symm⟩
  · cases h
def unitO {α : Type} : Option α → Option (α × Unit)
  | some x => some (x, ())
  | none => none
theorem unitO_some {α : Type} {x : Option α} {q : α × Unit} (h : unitO x = some q) : x = some q.1 := by
  cases x with
  | none => cases h
  | some a => obtain rfl := Option.some.inj h; rfl
def hapO {S : Nat → Type} {ts us : List Ty} : Option (HL S ts) → Option (HL S us) → Option (HL S (ts ++ us))
  | some x, some y => some (hap x y)
  | _, _ => none
theorem hapO_some {S : Nat → Type} {ts us : List Ty} {x : Option (HL S ts)} {y : Option (HL S us)} {q : HL S (ts ++ us)} (h : hapO x y = some q) : ∃ a b, x = some a ∧ y = some b ∧ q = hap a b := by
  cases x with
  | none => cases h
  | some a =>
    cases y with
    | none => cases h
    | some b => exact ⟨a, b, rfl, rfl, (Option.some.inj h).symm⟩
def pairO {α β : Type} : Option α → Option β → Option (α × β)
  | some x, some y => some (x, y)
  | _, _ => none
theorem pairO_some {α β : Type} {x : Option α} {y : Option β} {q : α × β} (h : pairO x y = some q) : x = some q.1 ∧ y = some q.2 := by
  cases x with
  | none => cases h
  | some a =>
    cases y with
    | none => cases h
    | some b => obtain rfl := Option.some.inj h; exact ⟨rfl, rfl⟩
def leafC (H : Nat → Option (Obj E)) : (ps : List CP) → List (SC E) → Option (HL E.S (cpT ps))
  | [], [] => some ()
  | .v t :: ps, c :: cs => pairO (c.data H t) (leafC H ps cs)
  | .own _ :: ps, _ :: cs => leafC H ps cs
  | .ptr _ :: ps, _ :: cs => leafC H ps cs
  | .mp _ :: ps, _ :: cs => leafC H ps cs
  | _, _ => none
def leafV (H : Nat → Option (Obj E)) : (p : VP) → V1 E → Option (HL E.S p.T)
  | .d t, x => unitO (takeD E H t x)
  | .one p, .one c => leafC H [p] [c]
  | .agg ps, .agg cs => leafC H ps cs
  | _, _ => none
def leafS (L : Nat → Option (SV E)) (H : Nat → Option (Obj E)) : (l : List (Nat × VP)) → Option (HL E.S (slotsT l))
  | [] => some ()
  | (t, p) :: l => match L t with
    | some (.v x) => hapO (leafV H p x) (leafS L H l)
    | _ => none
def leafO (H : Nat → Option (Obj E)) : (p : OP) → Obj E → Option (HL E.S p.T)
  | .box T t, .box T' cs => onlyIf (Nat.beq T T') (unitO ((dataL E H (E.flat t) cs).map (E.ufl t)))
  | .cells T ps, .box T' cs => onlyIf (Nat.beq T T') (leafC H ps cs)
  | .row e t _, .row e' _ xs _ => onlyIf (Nat.beq e e') (unitO (castO t xs))
  | .map T k v, .map T' _ _ ks vs _ => onlyIf (Nat.beq T T') (pairO (castO k ks) (unitO (castO v vs)))
  | _, _ => none
def leafOs (H : Nat → Option (Obj E)) (bs : Bd) : (l : List (Nat × Bool × OP)) → Option (HL E.S (objsT l))
  | [] => some ()
  | (j, _, p) :: l => match aget j bs with
    | some id => match H id with
      | some o => hapO (leafO H p o) (leafOs H bs l)
      | none => none
    | none => none
/-- Every pointer to an element that stays has its element; its slot and its number stay. -/
def focOK (H : Nat → Option (Obj E)) (bs : Bd) (keep gkeep : List Nat) : List (Nat × Bool × OP) → Bool
  | [] => true
  | (j, _, .row _ _ fs) :: l => (match aget j bs with
    | some id => match H id with
      | some (.row _ _ _ foc) => fs.all fun f => (foc.any fun p => Nat.beq p.1 f.1) && (memN f.2 keep && memN f.1 gkeep)
      | _ => false
    | none => false) && focOK H bs keep gkeep l
  | _ :: l => focOK H bs keep gkeep l
def noKey {α : Type} (i : Nat) (l : List (Nat × α)) : Bool := match aget i l with
  | none => true
  | some _ => false
def subset (l m : List Nat) : Bool := l.all fun t => memN t m
def selfs : List (Nat × Bool × OP) → List Nat
  | [] => []
  | (j, true, _) :: l => j :: selfs l
  | _ :: l => selfs l
def disj (l m : List Nat) : Bool := l.all fun t => !(memN t m)
/-- Slots and memory that stay have not turned; the numbers found are each one's own. -/
def JP.mtB (j : JP) (lo : Nat) (s : St E) (bs : Bd) : Bool :=
  (Nat.ble lo j.nx && bs.all fun p => Nat.ble lo p.1 || Nat.beq p.1 p.2) && (j.keep.all fun t => noKey t s.env && seen s.vis t) && ((j.hkeep.all fun t => noKey t s.heap && seen s.hvis t) && (nodupB (bs.map (·.2)) && (disj (bs.map (·.2)) j.hkeep && (disj (bs.map (·.1)) (j.hkeep ++ j.gkeep) && ((bs.all fun p => Nat.blt p.1 j.nx) && (j.hkeep ++ j.gkeep).all fun i => Nat.blt i j.nx)))))
/-- The data of what meets. -/
def JP.mt (j : JP) (b : Ba E) (s0 : St E) : Option (HL E.S j.T) :=
  let s := prepO b j.objs j.objs (prepL b j.objs j.slots s0)
  match bindS (s.L b) j.slots [] with
  | some bs => match bindO (s.H b) j.objs bs with
    | some bs => onlyIf (j.mtB b.lo s bs && focOK (s.H b) bs j.keep j.gkeep j.objs) (hapO (leafS (s.L b) (s.H b) j.slots) (leafOs (s.H b) bs j.objs))
    | none => none
  | none => none
/-! ### Going on -/
def newC : (ps : List CP) → HL E.S (cpT ps) → List (SC E)
  | [], _ => []
  | .v t :: ps, h => .dt t h.1 :: newC ps h.2
  | .own j :: ps, h => .own j :: newC ps h
  | .ptr j :: ps, h => .ptr j 0 :: newC ps h
  | .mp j :: ps, h => .mp j :: newC ps h
def ones : List (SC E) → Option (V1 E)
  | [c] => some (.one c)
  | _ => none
def newV : (p : VP) → HL E.S p.T → Option (V1 E)
  | .d t, h => asV E t (E.cells t h.1)
  | .one p, h => ones (newC [p] h)
  | .agg ps, h => some (.agg (newC ps h))
def slotO (t : Nat) : Option (V1 E) → Option (List (Nat × Option (SV E))) → Option (List (Nat × Option (SV E)))
  | some x, some r => some ((t, some (.v x)) :: r)
  | _, _ => none
def newS : (l : List (Nat × VP)) → HL E.S (slotsT l) → Option (List (Nat × Option (SV E)))
  | [], _ => some []
  | (t, p) :: l, h => slotO t (newV p (hfst p.T (slotsT l) h)) (newS l (hsnd p.T (slotsT l) h))
def focK (L : Nat → Option (SV E)) {R : Type} {t : Ty} (xs : List (Den E.S t)) : List (Nat × Nat) → (List (Nat × Int × Den E.S t) → Option R) → Option R
  | [], k => k []
  | (q, sl) :: fs, k => match L sl with
    | some (.v (.one (.elo _ q' i _))) => match Nat.beq q q' with
      | true => Option.bind (getI xs i) fun y => focK L xs fs fun l => k ((q, i, y) :: l)
      | false => none
    | _ => none
def newO (L : Nat → Option (SV E)) {R : Type} : (p : OP) → HL E.S p.T → (Obj E → Option R) → Option R
  | .box T t, h, k => k (.box T (E.cells t h.1))
  | .cells T ps, h, k => k (.box T (newC ps h))
  | .row e t fs, h, k => focK L h.1 fs fun l => k (.row e t h.1 l)
  | .map T kt v, h, k => k (.map T kt v h.1 h.2.1 [])
def newOs (L : Nat → Option (SV E)) {R : Type} : (l : List (Nat × Bool × OP)) → HL E.S (objsT l) → (Chs E → Option R) → Option R
  | [], _, k => k []
  | (j, _, p) :: l, h, k => newO L p (hfst p.T (objsT l) h) fun o => newOs L l (hsnd p.T (objsT l) h) fun u => k ((j, some o) :: u)
def SC.okIds (A : List Nat) : SC E → Bool
  | .own id => memN id A
  | .pre id _ => memN id A
  | .ptr id _ => memN id A
  | .elo id q _ _ => memN id A && memN q A
  | .clo _ ids => subset ids A
  | .mp id => memN id A
  | .mst q => memN q A
  | _ => true
def V1.okIds (A : List Nat) : V1 E → Bool
  | .one c => c.okIds A
  | .agg l => l.all fun c => c.okIds A
def SV.okIds (A : List Nat) : SV E → Bool
  | .v x => x.okIds A
  | .tup l => l.all fun x => x.okIds A
def Obj.okIds (A : List Nat) : Obj E → Bool
  | .box _ cs => cs.all fun c => c.okIds A
  | .row _ _ _ foc => foc.all fun p => memN p.1 A
  | .map _ _ _ _ _ foc => foc.all fun p => memN p.1 A
  | _ => true
def filtK {α : Type} (keep : List Nat) (l : List (Nat × α)) : List (Nat × α) := l.filter fun p => memN p.1 keep
/-- What stays speaks of what stays. -/
def JP.goB (j : JP) (b : Ba E) (s : St E) : Bool :=
  (j.keep.all fun t => match s.L b t with | some v => v.okIds (j.hkeep ++ (j.gkeep ++ selfs j.objs)) | none => true) && (j.hkeep.all fun i => match s.H b i with | some o => o.okIds (j.hkeep ++ (j.gkeep ++ selfs j.objs)) | none => true)
def JP.goS (j : JP) (s : St E) (env : List (Nat × Option (SV E))) (u : Chs E) : St E :=
  { env := env ++ filtK j.keep s.env, vis := some (j.keep.filter (seen s.vis)), heap := u ++ filtK j.hkeep s.heap, hvis := some (j.hkeep.filter (seen s.hvis)), nx := j.nx }
/-- The state behind a meeting. -/
def JP.go (j : JP) (b : Ba E) (s : St E) {R : Type} (h : HL E.S j.T) (k : St E → Option R) : Option R :=
  match newS j.slots (hfst (slotsT j.slots) (objsT j.objs) h) with
  | none => none
  | some env =>
    onlyIf (j.goB b s) (newOs (s.L b) j.objs (hsnd (slotsT j.slots) (objsT j.objs) h) fun u => k (j.goS s env u))
/-! ### Code -/
/-- How code is taken: what meets behind parts of it. -/
inductive Pl where
  | p
  | s (x y : Pl)
  /-- the ways through the first part meet ahead of the second; whether the first part returns -/
  | j (m : JP) (ret : Bool) (x y : Pl)
  /-- a loop: its head, its end, whether it returns -/
  | lp (hd ex : JP) (ret : Bool) (x : Pl)
  /-- a region that draws its order: the marks of its operations -/
  | dr (fl hs : List Nat) (fm : Bool) (ids : List Nat)
  /-- .. in which a variable is made at any time -/
  | df (fl hs : List Nat) (p : Nat)
def Pl.l : Pl → Pl
  | .s x _ => x
  | _ => .p
def Pl.r : Pl → Pl
  | .s _ y => y
  | _ => .p
/-- A block that is a loop. -/
noncomputable def evCode (P : Program) (E : TE) (eqs : List (Nat × Nat)) (tab : Tab E) (N : Nat) (RT : Type) (rv : Ba E → St E → Option RT) : Code → Pl → (R : Type) → Ba E → St E → (Option Nat → St E → Option R) → (RT → Option R) → Option R
  | .skip, _, _, _, s, k, _ => k none s
  | .region _ ops false, _, _, b, s, k, _ => evReg P E eqs tab N ops.toList b s (k none)
  | .region _ ops true, .dr fl hs fm ids, _, b, s, k, _ => evDraw P E eqs tab N ops.toList fl hs fm ids b s (k none)
  | .region _ ops true, .df fl hs p, _, b, s, k, _ => evFloat P E eqs tab N ops.toList fl hs p b s (k none)
  | .seq x y, .j m ret px py, R, b, s, k, kr => match ret with
    | false => Option.bind (evCode P E eqs tab N RT rv x px (Tp E.S m.T) (s.base b) (St.new s.nx) (fun ex s' => match ex with
        | none => (match m.mt (s.base b) s' with | some h => some (toTp m.T h) | none => none)
        | some _ => none) (fun _ => none)) fun o => m.go b s (ofTp m.T o) fun s' => evCode P E eqs tab N RT rv y py R b s' k kr
    | true => Option.bind (evCode P E eqs tab N RT rv x px (Out (Tp E.S m.T) RT) (s.base b) (St.new s.nx) (fun ex s' => match ex with
        | none => (match m.mt (s.base b) s' with | some h => some (.fall (toTp m.T h)) | none => none)
        | some _ => none) (fun r => some (.ret r))) fun o => match o with
          | .ret r => kr r
          | .fall o => m.go b s (ofTp m.T o) fun s' => evCode P E eqs tab N RT rv y py R b s' k kr
  | .seq x y, pl, R, b, s, k, kr => evCode P E eqs tab N RT rv x pl.l R b s (fun ex s' => match ex with
      | none => evCode P E eqs tab N RT rv y pl.r R b s' k kr
      | some i => k (some i) s') kr
  | .cond c x y, pl, R, b, s, k, kr => match opS E (s.L b) c with
    | some (.v (.one (.dt .bool c))) => bif c then evCode P E eqs tab N RT rv x pl.l R b s k kr else evCode P E eqs tab N RT rv y pl.r R b s k kr
    | _ => none
  | .block id (.loop body), .lp hd ex ret pb, _, b, s, k, kr => match hd.mt (s.base b) (St.new s.nx) with
    | none => none
    | some h0 => match ret with
      | false => Option.bind (loopF (fun tp => hd.go (s.base b) (St.new s.nx) (ofTp hd.T tp) fun s1 => evCode P E eqs tab N RT rv body pb (Step (Tp E.S hd.T) (Tp E.S ex.T)) (s.base b) s1 (fun e s' => match e with
            | none => (match hd.mt (s.base b) s' with | some h => some (.next (toTp hd.T h)) | none => none)
            | some i => match Nat.beq i id with
              | true => (match ex.mt (s.base b) s' with | some h => some (.done (toTp ex.T h)) | none => none)
              | false => none) (fun _ => none)) BIG (toTp hd.T h0)) fun o => ex.go b s (ofTp ex.T o) fun s' => k none s'
      | true => Option.bind (loopF (fun tp => hd.go (s.base b) (St.new s.nx) (ofTp hd.T tp) fun s1 => evCode P E eqs tab N RT rv body pb (Step (Tp E.S hd.T) (Out (Tp E.S ex.T) RT)) (s.base b) s1 (fun e s' => match e with
            | none => (match hd.mt (s.base b) s' with | some h => some (.next (toTp hd.T h)) | none => none)
            | some i => match Nat.beq i id with
              | true => (match ex.mt (s.base b) s' with | some h => some (.done (.fall (toTp ex.T h))) | none => none)
              | false => none) (fun r => some (.done (.ret r)))) BIG (toTp hd.T h0)) fun o => match o with
          | .ret r => kr r
          | .fall o => ex.go b s (ofTp ex.T o) fun s' => k none s'
  | .block id x, pl, R, b, s, k, kr => evCode P E eqs tab N RT rv x pl R b s (fun ex s' => match ex with
      | none => k none s'
      | some i => match Nat.beq i id with
        | true => k none s'
        | false => k (some i) s') kr
  | .exit i, _, _, _, s, k, _ => k (some i) s
  | .scope x, pl, R, b, s, k, kr => evCode P E eqs tab N RT rv x pl R b s k kr
  | .ret, _, _, b, s, _, kr => match rv b s with
    | some r => kr r
    | none => none
  | _, _, _, _, _, _, _ => none
/-! ### Functions -/
/-- What is frozen for a result. -/
def resSV (E : TE) (P : Program) (b : Ba E) (s : St E) : ResultVar → Option (V1 E)
  | .tmp t => match s.L b t with
    | some (.v x) => some x
    | _ => none
  | .cell t T => match s.L b t with
    | some (.v (.one c)) => match behind E (s.H b) c with
      | some (l, off) => loadC P T l off
      | none => none
    | _ => none
def resXs (E : TE) (P : Program) (b : Ba E) (s : St E) : List ResultVar → Option (List (V1 E))
  | [] => some []
  | v :: vs => match resSV E P b s v, resXs E P b s vs with
    | some x, some l => some (x :: l)
    | _, _ => none
def frzR (E : TE) (H : Nat → Option (Obj E)) : Rs → List (V1 E) → Chs E
  | (_, m) :: rs, x :: xs => frzL (upH H (frzR E H rs xs)) (unM m x.cs) ++ frzR E H rs xs
  | _, _ => []
/-- What lent variables hold is frozen, too. -/
def frzV (E : TE) (H : Nat → Option (Obj E)) : List Pm → Nat → Chs E
  | [], _ => []
  | .b _ _ :: ps, n => (match upH H (frzV E H ps (n + 1)) n with
    | some (.box _ cs) => frzL (upH H (frzV E H ps (n + 1))) cs
    | _ => []) ++ frzV E H ps (n + 1)
  | .l t m :: ps, n => frzV E H ps (n + cntO m (E.flat t))
  | .g t m :: ps, n => frzV E H ps (n + cntO m (E.flat t))
  | .mp _ _ _ :: ps, n => frzV E H ps (n + 1)
  | .d _ :: ps, n => frzV E H ps n
  | .p _ :: ps, n => frzV E H ps n
  | .f1 _ _ :: ps, n => frzV E H ps n
  | .f2 _ _ _ :: ps, n => frzV E H ps n
def frzA (E : TE) (H : Nat → Option (Obj E)) (ps : List Pm) (rs : Rs) (xs : List (V1 E)) : Chs E := frzV E (upH H (frzR E H rs xs)) ps 0 ++ frzR E H rs xs
/-- The results: their data; rows that go over to the caller. -/
def takeR (E : TE) (H : Nat → Option (Obj E)) : (rs : Rs) → List (V1 E) → Option (HL E.S rs.ts × List Nat)
  | [], [] => some ((), [])
  | (t, m) :: rs, x :: xs => match V1.fits t x, takeM E H m (E.flat t) x.cs, takeR E H rs xs with
    | true, some d, some q => some ((E.ufl t d.1, q.1), d.2 ++ q.2)
    | _, _, _ => none
  | _, _ => none
/-- Marked cells' rows, as they stand; the others as they came. -/
def backM (E : TE) (H : Nat → Option (Obj E)) : Mk → (ts : List Ty) → HL E.S ts → Nat → Option (HL E.S ts)
  | some e :: ms, .sl t :: ts, h, n => match H n with
    | some (.row e' t' xs _) => if ht : t' = t then match Nat.beq e e', backM E H ms ts h.2 (n + 1) with
        | true, some q => some (castL ht xs, q)
        | _, _ => none
      else none
    | _ => none
  | none :: ms, _ :: ts, h, n => match backM E H ms ts h.2 n with
    | some q => some (h.1, q)
    | none => none
  | [], _, h, _ => some h
  | _, _, _, _ => none
def backH (E : TE) (H : Nat → Option (Obj E)) : (ps : List Pm) → PA E ps → Nat → Option (HL E.S (backs ps))
  | [], _, _ => some ()
  | .l t m :: ps, a, n => match backM E H m (E.flat t) (E.fl t a.1) n, backH E H ps a.2 (n + cntO m (E.flat t)) with
    | some h, some q => some (E.ufl t h, q)
    | _, _ => none
  | .g t m :: ps, a, n => backH E H ps a.2 (n + cntO m (E.flat t))
  | .mp T k v :: ps, a, n => match H n, backH E H ps a.2 (n + 1) with
    | some (.map T' k' v' ks vs _), some q => if ht : k' = k ∧ v' = v then match Nat.beq T T' with
        | true => some (castL ht.1 ks, castL ht.2 vs, q)
        | false => none
      else none
    | _, _ => none
  | .b T t :: ps, a, n => match H n, backH E H ps a.2 (n + 1) with
    | some (.box T' cs), some q => match Nat.beq T T', dataL E H (E.flat t) cs with
      | true, some h => some (E.ufl t h, q)
      | _, _ => none
    | _, _ => none
  | .d _ :: ps, a, n => backH E H ps a.2 n
  | .p _ :: ps, a, n => backH E H ps a.2 n
  | .f1 _ _ :: ps, a, n => backH E H ps a.2 n
  | .f2 _ _ _ :: ps, a, n => backH E H ps a.2 n
/-- The numbers of what comes back. -/
def backI (E : TE) : List Pm → Nat → List Nat
  | [], _ => []
  | .l t m :: ps, n => List.range' n (cntO m (E.flat t)) ++ backI E ps (n + cntO m (E.flat t))
  | .g t m :: ps, n => backI E ps (n + cntO m (E.flat t))
  | .mp _ _ _ :: ps, n => n :: backI E ps (n + 1)
  | .b _ _ :: ps, n => n :: backI E ps (n + 1)
  | .d _ :: ps, n => backI E ps n
  | .p _ :: ps, n => backI E ps n
  | .f1 _ _ :: ps, n => backI E ps n
  | .f2 _ _ _ :: ps, n => backI E ps n
def retF (E : TE) (P : Program) (ps : List Pm) (rs : Rs) (a : PA E ps) (vs : List ResultVar) (b : Ba E) (s : St E) : Option (Tp E.S (rs.ts ++ backs ps)) :=
  match resXs E P b s vs with
  | none => none
  | some xs0 => prepRs E rs xs0 s.nx fun xs u _ => match takeR E (upH (upH (s.H b) u) (frzA E (upH (s.H b) u) ps rs xs)) rs xs with
    | none => none
    | some q => onlyIf (nodupB (backI E ps 0 ++ q.2)) (match backH E (upH (upH (s.H b) u) (frzA E (upH (s.H b) u) ps rs xs)) ps a 0 with
      | some bh => some (toTp _ (hap q.1 bh))
      | none => none)
def slotsOf : Nat → List (V1 E) → List (Nat × Option (SV E))
  | _, [] => []
  | i, x :: l => (i, some (.v x)) :: slotsOf (i + 1) l
noncomputable def evFun (P : Program) (E : TE) (eqs : List (Nat × Nat)) (tab : Tab E) (f : Func) (ps : List Pm) (rs : Rs) (pl : Pl) (a : PA E ps) : Option (Tp E.S (rs.ts ++ backs ps)) :=
  match f.body, argsV E ps a 0 with
  | some c, some svs => onlyIf (Nat.ble svs.length f.ntmps) <| evCode P E eqs tab f.ntmps (Tp E.S (rs.ts ++ backs ps)) (retF E P ps rs a f.results.toList) c pl (Tp E.S (rs.ts ++ backs ps)) ⟨fun _ => none, fun _ => none, cntA E ps⟩
      ⟨slotsOf 0 svs, none, argsO E ps a 0, none, cntA E ps⟩ (fun ex s => match ex with
        | none => retF E P ps rs a f.results.toList ⟨fun _ => none, fun _ => none, cntA E ps⟩ s
        | some _ => none) some
  | _, _ => none
end Rt
end Go
