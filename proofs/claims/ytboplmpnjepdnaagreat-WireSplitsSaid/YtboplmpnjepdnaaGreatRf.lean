/-
  The second engine, sixth text: operations that make memory, or turn memory of the call's own. No program in sight.
-/
import Derived.Test.YtboplmpnjepdnaaGreatRe
namespace Go
namespace Rt
open Go.RowKit

section
variable {P : Program} {E : TE} {z : Fz} {g : Ga} {nx : Nat}
variable {L : Nat → Option (SV E)} {H : Nat → Option (Obj E)} {ρ : Operand → Value} {w w0 : World} {o : Oper} {R : Type} {r : R} {Bs : List Nat} {F0 : Nat → Prop}
/-! ### Changes of the abstract memory -/
abbrev Chs (E : TE) := List (Nat × Option (Obj E))
def upH (H : Nat → Option (Obj E)) : Chs E → Nat → Option (Obj E)
  | [], j => H j
  | (i, o) :: l, j => match Nat.beq j i with
    | true => o
    | false => upH H l j
theorem upH_append (H : Nat → Option (Obj E)) : ∀ (l m : Chs E), upH (upH H m) l = upH H (l ++ m)
  | [], m => rfl
  | (i, o) :: l, m => by
    funext j
    simp only [upH, List.cons_append]
    rw [upH_append H l m]
theorem upH_one {i : Nat} {p q : Obj E} {j : Nat} (h : upH H [(i, some p)] j = some q) : (j = i ∧ q = p) ∨ (j ≠ i ∧ H j = some q) := by
  simp only [upH] at h
  split at h
  · rename_i hb
    exact .inl ⟨Nat.eq_of_beq_eq_true hb, (Option.some.inj h).symm⟩
  · rename_i hb
    exact .inr ⟨beq_false hb, h⟩
theorem upH_two {i m : Nat} {p q : Obj E} {j : Nat} (h : upH H [(i, some p), (m, none)] j = some q) : (j = i ∧ q = p) ∨ (j ≠ i ∧ j ≠ m ∧ H j = some q) := by
  simp only [upH] at h
  split at h
  · rename_i hb
    exact .inl ⟨Nat.eq_of_beq_eq_true hb, (Option.some.inj h).symm⟩
  · rename_i hb
    split at h
    · cases h
    · rename_i hb2
      exact .inr ⟨beq_false hb, beq_false hb2, h⟩
def Fresh (g : Ga) (nx : Nat) : Prop := ∀ i, nx ≤ i → g i = none
theorem Fresh.put (h : Fresh g nx) (l : Loc) : Fresh (g.put nx l) (nx + 1) := fun i hi => by
  rw [Ga.put_ne _ _ (by omega)]; exact h i (by omega)
theorem Fresh.succ (h : Fresh g nx) : Fresh g (nx + 1) := fun i hi => h i (by omega)
theorem Fresh.self (h : Fresh g nx) : g nx = none := h nx (Nat.le_refl _)
/-- What an operation does: k is given its value (or none, of a store) and the changes of the abstract memory. ex: it leaves old memory alone. -/
structure TurnsTo (P : Program) (E : TE) (Bs : List Nat) (F0 : Nat → Prop) (w0 w : World) (z : Fz) (g : Ga) (nx : Nat) (H : Nat → Option (Obj E)) (ρ : Operand → Value) (o : Oper) (ex : Bool) (s : Option (SV E)) (u : Chs E) (z' : Fz) (g' : Ga) (w' : World) (n : Next) : Prop where
  run : (execOp ρ o).run P w = .ok n w'
  val : match s with | some sv => ∃ v, n = .value v ∧ RV P E z' g' sv v | none => n = .skip
  le : z.Le z'
  leg : g.Le g'
  fresh : Fresh g' (nx + 1)
  hr : HR P E Bs F0 w0 w' z' g' (upH H u)
  ext : ex = true → Ext w w'
def Turns (P : Program) (E : TE) (Bs : List Nat) (F0 : Nat → Prop) (w0 w : World) (z : Fz) (g : Ga) (nx : Nat) (H : Nat → Option (Obj E)) (ρ : Operand → Value) (o : Oper) (ex : Bool) {R : Type} (k : Option (SV E) → Chs E → Option R) (r : R) : Prop :=
  ∃ s u z' g' w' n, k s u = some r ∧ TurnsTo P E Bs F0 w0 w z g nx H ρ o ex s u z' g' w' n
variable {k : Option (SV E) → Chs E → Option R}

/-! ### Freezing -/
/-- Rows of the call's own among these cells are frozen. -/
def frz1 (H : Nat → Option (Obj E)) : SC E → Chs E
  | .own id => match H id with
    | some (.row _ t xs _) => [(id, some (.fr t xs))]
    | _ => []
  | _ => []
theorem frz1_ok (h : HR P E Bs F0 w0 w z g H) (c : SC E) : ∃ z', z.Le z' ∧ HR P E Bs F0 w0 w z' g (upH H (frz1 H c)) := by
  unfold frz1
  split
  · split
    · rename_i e t xs foc hi
      exact ⟨_, h.fz.grow_le _, h.freeze hi fun j q hj => upH_one hj⟩
    · exact ⟨z, Fz.Le.refl z, h⟩
  · exact ⟨z, Fz.Le.refl z, h⟩
def frzL (H : Nat → Option (Obj E)) : List (SC E) → Chs E
  | [] => []
  | c :: l => frz1 (upH H (frzL H l)) c ++ frzL H l
theorem frzL_ok (h : HR P E Bs F0 w0 w z g H) : ∀ (l : List (SC E)), ∃ z', z.Le z' ∧ HR P E Bs F0 w0 w z' g (upH H (frzL H l))
  | [] => ⟨z, Fz.Le.refl z, h⟩
  | c :: l => by
    obtain ⟨z1, h1, h2⟩ := frzL_ok h l
    obtain ⟨z2, h3, h4⟩ := frz1_ok h2 c
    rw [upH_append] at h4
    exact ⟨z2, h1.trans h3, h4⟩
/-! ### Variables -/
theorem ObjR.box_new {T : TypeId} {cs : List (SC E)} {vs : List Value} (hnx : g nx = none) (hcs : All2 (RC P E z g) cs vs) :
    ObjR P E z (g.put nx ⟨none, 0, 0, 0, w.heap.size, 0⟩) (w.alloc (.cells vs.toArray T)) nx (.box T cs) := by
  refine ⟨_, vs, Ga.put_self _ _ _, ?_, hcs.mono fun _ _ h => RC.le h (Fz.Le.refl z) (Ga.le_put hnx)⟩
  show (w.heap.push _)[w.heap.size]? = _
  simp
theorem HR.box_new {T : TypeId} {cs : List (SC E)} {vs : List Value} (h : HR P E Bs F0 w0 w z g H) (hnx : g nx = none) (hcs : All2 (RC P E z g) cs vs) :
    HR P E Bs F0 w0 (w.alloc (.cells vs.toArray T)) z (g.put nx ⟨none, 0, 0, 0, w.heap.size, 0⟩) (upH H [(nx, some (.box T cs))]) := by
  refine h.add (Ext.one w _) hnx (ObjR.box_new hnx hcs) (fun k hk => ?_) fun j p hj => upH_one hj
  obtain ⟨l, h1, rfl⟩ := hk
  rw [Ga.put_self] at h1
  obtain rfl := Option.some.inj h1
  exact Nat.le_refl _
def lBox (E : TE) (L : Nat → Option (SV E)) (nx : Nat) (T : TypeId) (x : Operand) {R : Type} (k : Option (SV E) → Chs E → Option R) : Option R :=
  match opS E L x with
  | some s => match s.cells? with
    | some cs => k (some (.v (.one (.ptr nx 0)))) [(nx, some (.box T cs))]
    | none => none
  | none => none
theorem lBox_ok {T : TypeId} {x : Operand} (ho : o.op = .box T x) (hnx : Fresh g nx) (hρ : OpR P E z g L ρ) (hH : HR P E Bs F0 w0 w z g H) (h : lBox E L nx T x k = some r) : Turns P E Bs F0 w0 w z g nx H ρ o true k r := by
  unfold lBox at h
  split at h
  · rename_i s hs
    split at h
    · rename_i cs hc
      have hcs := SV.cells_ok hc (hρ x _ hs)
      have hrun := run_box (P := P) (w := w) ho (rfl : ρ x = ρ x)
      have hb := hH.box_new (T := T) hnx.self hcs
      rw [Array.toArray_toList] at hb
      exact ⟨_, _, z, _, _, _, h, ⟨hrun, ⟨_, rfl, _, Ga.put_self _ _ _, rfl⟩, Fz.Le.refl z, Ga.le_put hnx.self, hnx.put _, hb, fun _ => Ext.one w _⟩⟩
    · cases h
  · cases h
def lAlloc (P : Program) (E : TE) (nx : Nat) (T : TypeId) {R : Type} (k : Option (SV E) → Chs E → Option R) : Option R :=
  match zeroC P E T with
  | some cs => k (some (.v (.one (.ptr nx 0)))) [(nx, some (.box T cs))]
  | none => none
theorem zeroC_ok {T : TypeId} {cs : List (SC E)} (h : zeroC P E T = some cs) : ∃ zs, zeroOf P T = some zs ∧ All2 (RC P E z g) cs zs := by
  unfold zeroC at h
  split at h
  · rename_i zs hz
    exact ⟨zs, hz, constCs_ok h⟩
  · cases h
theorem lAlloc_ok {T : TypeId} (ho : o.op = .alloc T) (hnx : Fresh g nx) (hH : HR P E Bs F0 w0 w z g H) (h : lAlloc P E nx T k = some r) : Turns P E Bs F0 w0 w z g nx H ρ o true k r := by
  unfold lAlloc at h
  split at h
  · rename_i cs hc
    obtain ⟨zs, hz, hcs⟩ := zeroC_ok (z := z) (g := g) hc
    have hrun := run_alloc (P := P) (w := w) (ρ := ρ) ho hz
    exact ⟨_, _, z, _, _, _, h, ⟨hrun, ⟨_, rfl, _, Ga.put_self _ _ _, rfl⟩, Fz.Le.refl z, Ga.le_put hnx.self, hnx.put _, hH.box_new (T := T) hnx.self hcs, fun _ => Ext.one w _⟩⟩
  · cases h
/-! ### Stores -/
theorem Sep.single {L : List Nat} {x : Res} (hx : x.holds w) (hL : ∀ k, x.fp k → k ∈ L) : Sep L w w [x] :=
  ⟨Chg.of_below (Below.refl _ _), fun r hr => by obtain rfl := List.mem_singleton.1 hr; exact hx, fun r hr _ k hk => by obtain rfl := List.mem_singleton.1 hr; exact .inr (hL k hk), .cons (fun _ h => nomatch h) .nil⟩
def lStore (P : Program) (E : TE) (L : Nat → Option (SV E)) (H : Nat → Option (Obj E)) (T : TypeId) (x y : Operand) {R : Type} (k : Option (SV E) → Chs E → Option R) : Option R :=
  match opS E L x, opS E L y with
  | some (.v (.one (.ptr id off))), some s => match H id, s.cells?, sizeV P T with
    | some (.box T' cs), some ys, some n => match Nat.beq n ys.length && Nat.ble (off + ys.length) cs.length with
      | true => k none [(id, some (.box T' (spliceC cs off ys)))]
      | false => none
    | _, _, _ => none
  | some (.v (.one (.elo id q _ off))), some s => match s.cells?, sizeV P T with
    | some ys, some n => match upH H (frzL H ys) id with
      | some (.row e t xs foc) => match foc.find? fun p => Nat.beq p.1 q with
        | some p => match Nat.beq n ys.length && Nat.ble (off + ys.length) (E.size t), dataL E (upH H (frzL H ys)) (E.flat t) (spliceC (E.cells t p.2.2) off ys) with
          | true, some h => k none ((id, some (.row e t (xs.set p.2.1.toNat (E.ufl t h)) [(q, p.2.1, E.ufl t h)])) :: frzL H ys)
          | _, _ => none
        | none => none
      | _ => none
    | _, _ => none
  | _, _ => none
theorem set_rows {t : Ty} {xs : List (Den E.S t)} {rows : List (List Value)} {y : Den E.S t} {r' : List Value} (h : Rows E z t xs rows) (i : Nat) (hr : RD E z (E.flat t) (E.fl t y) r') : Rows E z t (xs.set i y) (rows.set i r') := by
  intro j x r hx hr2
  rw [List.getElem?_set] at hx hr2
  by_cases hij : i = j
  · rw [if_pos hij] at hx hr2
    split at hx
    · split at hr2
      · obtain rfl := Option.some.inj hx
        obtain rfl := Option.some.inj hr2
        exact hr
      · cases hr2
    · cases hx
  · rw [if_neg hij] at hx hr2
    exact h j x r hx hr2
theorem lStore_ok {T : TypeId} {x y : Operand} (ho : o.op = .store T x y) (hnx : Fresh g nx) (hρ : OpR P E z g L ρ) (hH : HR P E Bs F0 w0 w z g H) (h : lStore P E L H T x y k = some r) : Turns P E Bs F0 w0 w z g nx H ρ o false k r := by
  unfold lStore at h
  split at h
  · rename_i id off s hx hy
    split at h
    · rename_i T' cs ys n hi hc hn
      split at h
      · rename_i hb
        simp only [Bool.and_eq_true] at hb
        have hb1 := Nat.eq_of_beq_eq_true hb.1
        have hb2 := Nat.le_of_ble_eq_true hb.2
        obtain ⟨l, h1, ev⟩ := hρ x _ hx
        obtain ⟨l', vs, h2, h3, h4⟩ := hH.hold _ _ hi
        rw [h1] at h2; obtain rfl := Option.some.inj h2
        have hys := SV.cells_ok hc (hρ y _ hy)
        have hl1 : ys.length = (ρ y).cells.size := by rw [hys.len, Array.length_toList]
        have hl2 := h4.len
        have hrun := run_store_row (P := P) (w := w) ho ev (rfl : ρ y = ρ y) h3 (by rw [hn]; congr 1; omega) (by apply Nat.ble_eq_true_of_le; omega) (RC.cells hys)
        refine ⟨none, _, z, g, _, _, h, ⟨hrun, rfl, Fz.Le.refl z, Ga.Le.refl g, hnx.succ, ?_, fun h => by cases h⟩⟩
        refine hH.turn (Ga.Le.refl g) (i := id) (i' := id) (C := fun k => k = l.b) (fun k hk => ⟨_, hi, l, h1, hk⟩) (setRow_grow w _ _) (fun k _ hk => setRow_else w _ k _ hk) (o' := .box T' (spliceC cs off ys)) ?_ (fun k hk => ?_) fun j p hj => ?_
        · exact ⟨l, _, h1, setRow_at w _ _ _ T' h3, splice_rel off h4 hys⟩
        · obtain ⟨l2, h5, rfl⟩ := hk
          rw [h1] at h5; obtain rfl := Option.some.inj h5
          exact .inl rfl
        · rcases upH_one hj with ⟨rfl, rfl⟩ | ⟨h5, h6⟩
          · exact .inl ⟨rfl, rfl⟩
          · exact .inr ⟨h5, .inl h5, h6⟩
      · cases h
    · cases h
  · rename_i id q ii off s hx hy
    split at h
    · rename_i ys n hc hn
      split at h
      · rename_i e t xs foc hi
        split at h
        · rename_i p hp
          split at h
          · rename_i hd hb hdl
            simp only [Bool.and_eq_true] at hb
            have hb1 := Nat.eq_of_beq_eq_true hb.1
            have hb2 := Nat.le_of_ble_eq_true hb.2
            obtain ⟨z', hz, hH'⟩ := frzL_ok hH ys
            have hpi : p.1 = q := Nat.eq_of_beq_eq_true (by simpa using List.find?_some hp)
            obtain ⟨lq, h1, _, ev⟩ := hρ x _ hx
            obtain ⟨lo, rows, h2, hln, hlc, hown, hlen, hrl, hrows, hfoc⟩ := hH'.hold _ _ hi
            obtain ⟨hg, lq', off2, h3, hA, hq, hix⟩ := hfoc p (List.mem_of_find?_eq_some hp)
            rw [hpi, h1] at h3; obtain rfl := Option.some.inj h3
            obtain ⟨_, hxp, hlt⟩ := getI_some hg
            have hil : p.2.1.toNat < rows.length := by rw [hlen, hln]; exact hlt
            have hrow := hrows p.2.1.toNat p.2.2 _ hxp (List.getElem?_eq_getElem hil)
            have hys := SV.cells_ok hc ((hρ y _ hy).le hz (Ga.Le.refl g))
            have hl1 : ys.length = (ρ y).cells.size := by rw [hys.len, Array.length_toList]
            have hsp := splice_rel off (cells_rd.1 hrow) hys
            have hnew := dataL_ok hH' hdl hsp
            have hS := Sep.single (L := [lq.b]) (x := .row e lo.c lo.A lo.n lo.cap rows) ⟨hown, hlen, hrl⟩ (fun k hk => by
              obtain ⟨a, ha, rfl⟩ := hk
              rw [hA] at ha; obtain rfl := Option.some.inj ha
              simp)
            obtain ⟨w', hrun, hS', hgrow, hoth⟩ := run_store_elem (P := P) (k := 0) (j := off) ho ev (rfl : ρ y = ρ y) hS rfl hA (List.getElem?_eq_getElem hil) (by rw [hq]) (by rw [hn]; congr 1; omega) (by apply Nat.ble_eq_true_of_le; rw [hlc]; omega) (RC.cells hys) rfl
            have hh := hS'.hold (.row e lo.c lo.A lo.n lo.cap (rows.set p.2.1.toNat (splice rows[p.2.1.toNat] off (ρ y).cells.toList))) (by simp)
            obtain ⟨hown', hlen', hrl'⟩ := hh
            rw [← E.fl_ufl t hd] at hnew
            have hset := set_rows hrows p.2.1.toNat hnew
            refine ⟨none, _, z', g, w', _, h, ⟨hrun, rfl, hz, Ga.Le.refl g, hnx.succ, ?_, fun h => by cases h⟩⟩
            have hup : upH H ((id, some (.row e t (xs.set p.2.1.toNat (E.ufl t hd)) [(q, p.2.1, E.ufl t hd)])) :: frzL H ys) = upH (upH H (frzL H ys)) [(id, some (.row e t (xs.set p.2.1.toNat (E.ufl t hd)) [(q, p.2.1, E.ufl t hd)]))] := by
              rw [upH_append]; rfl
            rw [hup]
            refine hH'.turn (Ga.Le.refl g) (i := id) (i' := id) (C := fun k => k = lq.b) (fun k hk => ⟨_, hi, lo, _, h2, hA, hk⟩) hgrow (fun k _ hk => hoth k hk) (o' := .row e t (xs.set p.2.1.toNat (E.ufl t hd)) [(q, p.2.1, E.ufl t hd)]) ?_ (fun k hk => ?_) fun j p' hj => ?_
            · refine ⟨lo, _, h2, by rw [List.length_set]; exact hln, hlc, hown', hlen', hrl', hset, fun p' hp' => ?_⟩
              obtain rfl := List.mem_singleton.1 hp'
              refine ⟨?_, lq, off2, h1, hA, hq, hix⟩
              unfold getI
              rw [if_pos (getI_some hg).1, List.getElem?_set, if_pos rfl, if_pos hlt]
            · obtain ⟨l2, a2, h5, h6, rfl⟩ := hk
              rw [h2] at h5; obtain rfl := Option.some.inj h5
              rw [hA] at h6; obtain rfl := Option.some.inj h6
              exact .inl rfl
            · rcases upH_one hj with ⟨rfl, rfl⟩ | ⟨h5, h6⟩
              · exact .inl ⟨rfl, rfl⟩
              · exact .inr ⟨h5, .inl h5, h6⟩
          · cases h
        · cases h
      · cases h
    · cases h
  · cases h
end
end Rt
end Go
