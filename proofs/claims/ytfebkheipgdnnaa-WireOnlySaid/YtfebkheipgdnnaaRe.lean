/-
  The second engine, fifth text: slices that are read, lengths, structs that are built, closures; every quiet operation. No program in sight.
-/
import Derived.Test.YtfebkheipgdnnaaRd
namespace Go
namespace Rt
open Go.RowKit

section
variable {P : Program} {E : TE} {z : Fz} {g : Ga} {nx : Nat}
variable {L : Nat → Option (SV E)} {H : Nat → Option (Obj E)} {ρ : Operand → Value} {W w0 : World} {I : World → Prop} {o : Oper} {R : Type} {k : SV E → Up E → Option R} {r : R} {Bs : List Nat} {F0 : Nat → Prop}
/-! ### Slices -/
/-- A list, with its type. -/
structure Li (E : TE) where
  t : Ty
  xs : List (Den E.S t)
def SC.fro (H : Nat → Option (Obj E)) : SC E → Option (Li E)
  | .dt (.sl t) xs => some ⟨t, xs⟩
  | .own id => match H id with
    | some (.fr t xs) => some ⟨t, xs⟩
    | _ => none
  | _ => none
theorem SlF.stand {c n : Nat} {A : Option Addr} {rows : List (List Value)} {w : World} (h : SlF z.F c A n rows z.w) (hz : z.In w) : SlF z.F c A n rows w :=
  ⟨h.1, fun hn => by
    obtain ⟨b, off, e, hb, hc⟩ := h.2 hn
    exact ⟨b, off, e, hb, fun i r hr => ⟨(hc i r hr).1, fun j u hu => (World.cell?_of_block (w := z.w) (hz b hb).2).trans ((hc i r hr).2 j u hu)⟩⟩⟩
theorem SC.fro_ok {c : SC E} {v : Value} {l : Li E} {w : World} (hH : HR P E Bs F0 w0 w z g H) (h : c.fro H = some l) (hr : RC P E z g c v) :
    ∃ A cap rows, v = .slice A l.xs.length cap ∧ SlF z.F (E.size l.t) A l.xs.length rows z.w ∧ l.xs.length ≤ cap ∧ Rows E z l.t l.xs rows := by
  unfold SC.fro at h
  split at h
  · obtain rfl := Option.some.inj h
    obtain ⟨A, cap, rows, vs', e, hs, hc, hrw, _⟩ := RD.sl_inv (hr : RD E z _ _ [v])
    simp at e
    exact ⟨A, cap, rows, e.1, hs, hc, hrw⟩
  · split at h
    · rename_i t xs hi
      obtain rfl := Option.some.inj h
      obtain ⟨lo, h1, rfl⟩ := hr
      obtain ⟨l', rows, h2, hn, hc, hs, hcap, hrows⟩ := hH.hold _ _ hi
      rw [h1] at h2; obtain rfl := Option.some.inj h2
      rw [hn] at hs hcap ⊢
      rw [hc] at hs
      exact ⟨_, _, rows, rfl, hs, hcap, hrows⟩
    · cases h
  · cases h
def qIndexAddr (P : Program) (E : TE) (L : Nat → Option (SV E)) (H : Nat → Option (Obj E)) (nx : Nat) (T : TypeId) (x i : Operand) {R : Type} (k : SV E → Up E → Option R) : Option R :=
  match opS E L x, opS E L i, P.underlying T with
  | some (.v (.one c)), some (.v (.one (.dt (.int _) n))), some (.slice e) => match c.fro H with
    | some l => match sizeV P e with
      | some s => match Nat.beq s (E.size l.t) with
        | true => Option.bind (getI l.xs n) fun y => k (.v (.one (.elf l.t y 0))) none
        | false => none
      | none => none
    | none => match c with
      | .own id => match H id with
        | some (.row e' t xs foc) => match sizeV P e with
          | some s => match Nat.beq s (E.size t) with
            | true => Option.bind (getI xs n) fun y => k (.v (.one (.elo id nx n 0))) (some (id, .row e' t xs ((nx, n, y) :: foc)))
            | false => none
          | none => none
        | _ => none
      | _ => none
  | _, _, _ => none
theorem qIndexAddr_ok {T : TypeId} {x i : Operand} (ho : o.op = .indexAddr T x i) (hnx : g nx = none) (hρ : OpR P E z g L ρ) (hH : HR P E Bs F0 w0 W z g H) (hI : ∀ w', I w' → Stands z g H W w') (h : qIndexAddr P E L H nx T x i k = some r) : Good P E z g nx I H ρ o k r := by
  unfold qIndexAddr at h
  split at h
  · rename_i c ki n e hx hi hu
    have hv := hρ x _ hx
    have hn := SV.int_ok rfl (hρ i _ hi)
    split at h
    · rename_i l hl
      split at h
      · rename_i s hs
        split at h
        · rename_i hb
          obtain rfl := Nat.eq_of_beq_eq_true hb
          obtain ⟨y, hy, h⟩ := bind_some h
          obtain ⟨A, cap, rows, ev, hsl, hcap, hrows⟩ := SC.fro_ok hH hl hv
          obtain ⟨h0, hyx, hlt⟩ := getI_some hy
          have hil : n.toNat < rows.length := by rw [hsl.1]; exact hlt
          obtain ⟨b, off, rfl, hF, hcell⟩ := hsl.2 (by omega)
          refine .mk' h (v := .pointer (some ⟨b, off + n.toNat * E.size l.t, none⟩)) ⟨b, off + n.toNat * E.size l.t, _, by rw [Nat.add_zero], hF, hrows n.toNat y _ hyx (List.getElem?_eq_getElem hil), fun j u hu => (hcell n.toNat _ (List.getElem?_eq_getElem hil)).2 j u hu⟩ fun w' hw' => ?_
          obtain ⟨b', off', e', hrun⟩ := run_indexAddr (P := P) ho hu hs ev hn (hsl.stand (hI w' hw').1) rfl hy
          simp only [Option.some.injEq, Addr.mk.injEq] at e'
          obtain ⟨rfl, rfl, _⟩ := e'
          exact hrun
        · cases h
      · cases h
    · split at h
      · rename_i id _
        split at h
        · rename_i e' t xs foc hi'
          split at h
          · rename_i s hs
            split at h
            · rename_i hb
              obtain rfl := Nat.eq_of_beq_eq_true hb
              obtain ⟨y, hy, h⟩ := bind_some h
              obtain ⟨lo, h1, ev⟩ := hv
              obtain ⟨h0, hyx, hlt⟩ := getI_some hy
              have hh := hH.hold _ _ hi'
              obtain ⟨l', rows, h2, hn2, hc, hown, hlen, hrl, hrows, hfoc⟩ := hh
              rw [h1] at h2; obtain rfl := Option.some.inj h2
              have hsl := row_reads (w := W) (e := e') (cap := lo.cap) ⟨hown, hlen, hrl⟩
              obtain ⟨b, off, hA, _, _⟩ := hsl.2 (by omega)
              have hle : g.Le (g.put nx ⟨none, off + n.toNat * lo.c, 0, 0, b, n⟩) := Ga.le_put hnx
              refine ⟨_, .pointer (some ⟨b, off + n.toNat * lo.c, none⟩), _, _, h, hle, fun i hi => Ga.put_ne _ _ hi, ⟨_, Ga.put_self _ _ _, rfl, by rw [Nat.add_zero]⟩, fun w' hw' => ?_, ?_⟩
              · have hw := (hI w' hw').hold hH _ _ hi'
                obtain ⟨l2, rows2, h3, hn3, hc3, hown3, hlen3, hrl3, _, _⟩ := hw
                rw [h1] at h3; obtain rfl := Option.some.inj h3
                have hsl3 := row_reads (w := w') (e := e') (cap := lo.cap) ⟨hown3, hlen3, hrl3⟩
                rw [hc] at hsl3
                obtain ⟨b', off', e2, hrun⟩ := run_indexAddr (P := P) ho hu hs ev hn hsl3 hn2.symm hy
                rw [hA] at e2
                simp only [Option.some.injEq, Addr.mk.injEq] at e2
                obtain ⟨rfl, rfl, _⟩ := e2
                rw [hc]
                exact hrun
              · refine ⟨_, hi', fun z w hq => ?_, fun q => ?_⟩
                · obtain ⟨l3, rows3, h4, hn4, hc4, hown4, hlen4, hrl4, hrows4, hfoc4⟩ := hq
                  rw [h1] at h4; obtain rfl := Option.some.inj h4
                  refine ⟨_, rows3, hle _ _ h1, hn4, hc4, hown4, hlen4, hrl4, hrows4, fun p hp => ?_⟩
                  rcases List.mem_cons.1 hp with rfl | hp
                  · exact ⟨hy, _, off, Ga.put_self _ _ _, hA, rfl, rfl⟩
                  · obtain ⟨h7, lq, o2, h8, h9⟩ := hfoc4 p hp
                    exact ⟨h7, lq, o2, hle _ _ h8, h9⟩
                · constructor
                  · rintro ⟨l3, a3, h4, h5, h6⟩
                    rw [hle _ _ h1] at h4; obtain rfl := Option.some.inj h4
                    exact ⟨_, a3, h1, h5, h6⟩
                  · rintro ⟨l3, a3, h4, h5, h6⟩
                    exact ⟨_, a3, hle _ _ h4, h5, h6⟩
            · cases h
          · cases h
        · cases h
      · cases h
  · cases h
/-- An element of an array, its index written out. -/
def qIndexArr (P : Program) (E : TE) (L : Nat → Option (SV E)) (m : Nat) (e : TypeId) (x i : Operand) {R : Type} (k : SV E → Up E → Option R) : Option R :=
  match opS E L x, i, sizeV P e with
  | some (.v (.one c)), .const (.int _ (.ofNat j)), some s => match Nat.blt j m, c.shift (j * s) with
    | true, some c' => k (.v (.one c')) none
    | _, _ => none
  | _, _, _ => none
theorem qIndexArr_ok {T : TypeId} {m : Nat} {e : TypeId} {x i : Operand} (ho : o.op = .indexAddr T x i) (hu : P.underlying T = some (.array m e)) (hρ : OpR P E z g L ρ) (h : qIndexArr P E L m e x i k = some r) : Good P E z g nx I H ρ o k r := by
  unfold qIndexArr at h
  split at h
  · rename_i c ki j s hx hs
    split at h
    · rename_i c' hb hc
      obtain ⟨b, off, hv, hr⟩ := SC.shift_ok hc (hρ x _ hx)
      have hn := SV.int_ok rfl (hρ (.const (.int ki (.ofNat j))) (.v (.one (.dt (.int ki) (.ofNat j)))) rfl)
      have hj : j < m := by simpa using hb
      refine .mk' h (v := .pointer (some ⟨b, off + j * s, none⟩)) hr fun w' _ => ?_
      exact run_indexArr (i := .ofNat j) (u := ()) ho hu hs hv hn (by unfold boundI; rw [if_pos ⟨Int.natCast_nonneg j, by simpa using hj⟩])
    · cases h
  · cases h
def bndS (E : TE) (L : Nat → Option (SV E)) : Option Operand → Option (Option Int)
  | none => some none
  | some x => match opS E L x with
    | some (.v (.one (.dt (.int _) n))) => some (some n)
    | _ => none
theorem bndS_ok {lo : Option Operand} {l : Option Int} (hρ : OpR P E z g L ρ) (h : bndS E L lo = some l) : boundIs ρ lo l := by
  unfold bndS at h
  split at h
  · obtain rfl := Option.some.inj h; trivial
  · split at h
    · rename_i x y ki n hx
      obtain rfl := Option.some.inj h
      exact ⟨ki, SV.int_ok rfl (hρ x _ hx)⟩
    · cases h
/-- A cut with an upper bound that is given, or the length. -/
def hiD (n : Int) : Option Int → Int
  | some h => h
  | none => n
theorem hiD_eq (n : Int) (h : Option Int) : hiD n h = h.getD n := by cases h <;> rfl
def qSlice (P : Program) (E : TE) (L : Nat → Option (SV E)) (H : Nat → Option (Obj E)) (T : TypeId) (x : Operand) (lo hi : Option Operand) {R : Type} (k : SV E → Up E → Option R) : Option R :=
  match opS E L x, bndS E L lo, bndS E L hi, P.underlying T with
  | some (.v (.one (.dt .str s))), some l, some h, some .string => Option.bind (subI s (hiD 0 l) (hiD (s.length : Int) h)) fun y => k (.v (.one (.dt .str y))) none
  | some (.v (.one c)), some l, some h, some (.slice e) => match c.fro H with
    | some li => match sizeV P e with
      | some s => match Nat.beq s (E.size li.t) with
        | true => Option.bind (subI li.xs (hiD 0 l) (hiD (li.xs.length : Int) h)) fun y => k (.v (.one (.dt (.sl li.t) y))) none
        | false => none
      | none => none
    | none => match c, l, h with
      | .own id, none, some n => match H id with
        | some (.row _ _ xs _) => match sizeV P e with
          | some _ => Option.bind (subI xs 0 n) fun _ => k (.v (.one (.pre id n))) none
          | none => none
        | _ => none
      | _, _, _ => none
  | _, _, _, _ => none
theorem rows_sub {t : Ty} {xs : List (Den E.S t)} {rows : List (List Value)} (h : Rows E z t xs rows) (a b : Nat) : Rows E z t ((xs.take b).drop a) ((rows.take b).drop a) := by
  intro i x r hx hr
  rw [List.getElem?_drop, List.getElem?_take] at hx hr
  split at hx
  · rename_i hc
    rw [if_pos hc] at hr
    exact h _ x r hx hr
  · cases hx
theorem qSlice_ok {T : TypeId} {x : Operand} {lo hi : Option Operand} (ho : o.op = .slice T x lo hi none) (hρ : OpR P E z g L ρ) (hH : HR P E Bs F0 w0 W z g H) (h : qSlice P E L H T x lo hi k = some r) : Good P E z g nx I H ρ o k r := by
  unfold qSlice at h
  split at h
  · rename_i s l hh hx hl hhi hu
    obtain ⟨y, hy, h⟩ := bind_some h
    rw [hiD_eq, hiD_eq] at hy
    exact .mk' h (v := S y) (.str .nil) fun w' _ => run_str_sub ho hu (SV.str_ok rfl (hρ x _ hx)) (bndS_ok hρ hl) (bndS_ok hρ hhi) hy
  · rename_i c l hh e hx hl hhi hu
    have hv := hρ x _ hx
    split at h
    · rename_i li hli
      split at h
      · rename_i s hs
        split at h
        · rename_i hb
          obtain rfl := Nat.eq_of_beq_eq_true hb
          obtain ⟨y, hy, h⟩ := bind_some h
          rw [hiD_eq, hiD_eq] at hy
          obtain ⟨A, cap, rows, ev, hsl, hcap, hrows⟩ := SC.fro_ok hH hli hv
          obtain ⟨h0, h1, h2, rfl⟩ := subI_some hy
          have hcut := SlF.cut hsl hcap (lo := (l.getD 0).toNat) (hi := (hh.getD li.xs.length).toNat) (by omega) (by omega)
          have hlen : ((li.xs.take (hh.getD (li.xs.length : Int)).toNat).drop (l.getD 0).toNat).length = (hh.getD (li.xs.length : Int)).toNat - (l.getD 0).toNat := by
            simp; omega
          refine .mk' h (v := .slice (cutA A (E.size li.t) (l.getD 0).toNat cap) ((hh.getD (li.xs.length : Int)).toNat - (l.getD 0).toNat) (cap - (l.getD 0).toNat)) ?_ fun w' _ => run_cut ho hu hs ev (bndS_ok hρ hl) (bndS_ok hρ hhi) h0 h1 (by omega)
          have hsl' : SlF z.F (E.size li.t) (cutA A (E.size li.t) (l.getD 0).toNat cap) ((li.xs.take (hh.getD (li.xs.length : Int)).toNat).drop (l.getD 0).toNat).length ((rows.take (hh.getD (li.xs.length : Int)).toNat).drop (l.getD 0).toNat) z.w := by rw [hlen]; exact hcut
          have := RD.sl (E := E) hsl' (cap := cap - (l.getD 0).toNat) (by rw [hlen]; omega) (rows_sub hrows _ _) (.nil (h := ()))
          rw [hlen] at this
          exact this
        · cases h
      · cases h
    · split at h
      · rename_i id n _
        split at h
        · rename_i e' t xs foc hi'
          split at h
          · rename_i s hs
            obtain ⟨y, hy, h⟩ := bind_some h
            obtain ⟨h0, h1, h2, _⟩ := subI_some hy
            obtain ⟨lo', h3, ev⟩ := hv
            obtain ⟨l', rows, h4, hn, hc, hown, _⟩ := hH.hold _ _ hi'
            rw [h3] at h4; obtain rfl := Option.some.inj h4
            have hcap := (Own.cap_le hown).1
            refine .mk' h (v := .slice lo'.A n.toNat lo'.cap) ⟨lo', h3, rfl⟩ fun w' _ => ?_
            have := run_cut (P := P) (w := w') (c := s) ho hu hs ev (bndS_ok hρ hl) (bndS_ok hρ hhi) (Int.le_refl 0) (show (0 : Int) ≤ (some n).getD _ from h1) (show (some n).getD _ ≤ _ from by simp only [Option.getD_some]; omega)
            simp only [Option.getD_none, Option.getD_some, Int.toNat_zero, Nat.sub_zero, cutA] at this
            rw [this]
            split
            · rename_i hz
              cases hA : lo'.A <;> simp_all
            · cases hA : lo'.A with
              | none => rfl
              | some a => simp [Addr.add]
          · cases h
        · cases h
      · cases h
  · cases h
/-! ### Lengths -/
def SC.len? (H : Nat → Option (Obj E)) : SC E → Option Int
  | .dt (.sl _) xs => some (xs.length : Int)
  | .own id => match H id with
    | some (.row _ _ xs _) => some (xs.length : Int)
    | some (.fr _ xs) => some (xs.length : Int)
    | _ => none
  | .nils => some 0
  | _ => none
theorem SC.len_ok {c : SC E} {v : Value} {n : Int} {w : World} (hH : HR P E Bs F0 w0 w z g H) (h : c.len? H = some n) (hr : RC P E z g c v) : ∃ A m cap, v = .slice A m cap ∧ n = (m : Int) := by
  unfold SC.len? at h
  split at h
  · obtain rfl := Option.some.inj h
    obtain ⟨A, cap, rows, vs', e, _⟩ := RD.sl_inv (hr : RD E z _ _ [v])
    simp at e
    exact ⟨A, _, cap, e.1, rfl⟩
  · split at h
    · rename_i hi
      obtain rfl := Option.some.inj h
      obtain ⟨lo, h1, rfl⟩ := hr
      obtain ⟨l', rows, h2, hn, _⟩ := hH.hold _ _ hi
      rw [h1] at h2; obtain rfl := Option.some.inj h2
      exact ⟨_, _, _, rfl, by rw [hn]⟩
    · rename_i hi
      obtain rfl := Option.some.inj h
      obtain ⟨lo, h1, rfl⟩ := hr
      obtain ⟨l', rows, h2, hn, _⟩ := hH.hold _ _ hi
      rw [h1] at h2; obtain rfl := Option.some.inj h2
      exact ⟨_, _, _, rfl, by rw [hn]⟩
    · cases h
  · obtain rfl := Option.some.inj h
    simp only [RC] at hr
    subst hr
    exact ⟨none, 0, 0, rfl, rfl⟩
  · cases h
theorem op_builtin {b : Builtin} {xs : Array Operand} {ats : Array TypeId} (ho : o.op = .call { callee := .builtin b, args := xs, argTypes := ats }) : ∃ cs, execOp ρ o = builtin b ats o.type cs (xs.map ρ) := by
  obtain ⟨dst, op, ty', pos, after, guard⟩ := o
  simp only at ho
  subst ho
  exact ⟨_, BigFrame.execOp_builtin ρ dst b xs ats ty' pos after guard⟩
def qLen (P : Program) (E : TE) (L : Nat → Option (SV E)) (H : Nat → Option (Obj E)) (T : TypeId) (x : Operand) {R : Type} (k : SV E → Up E → Option R) : Option R :=
  match opS E L x, P.underlying T with
  | some (.v (.one (.dt .str s))), some .string => k (.v (.one (.dt (.int .i64) (s.length : Int)))) none
  | some (.v (.one c)), some (.slice _) => match c.len? H with
    | some n => k (.v (.one (.dt (.int .i64) n))) none
    | none => none
  | _, _ => none
theorem qLen_ok {T : TypeId} {x : Operand} (ho : o.op = .call { callee := .builtin .len, args := #[x], argTypes := #[T] }) (hρ : OpR P E z g L ρ) (hH : HR P E Bs F0 w0 W z g H) (h : qLen P E L H T x k = some r) : Good P E z g nx I H ρ o k r := by
  unfold qLen at h
  obtain ⟨cs, hop⟩ := op_builtin (ρ := ρ) ho
  rw [BigFrame.builtin_len] at hop
  split at h
  · rename_i s hx hu
    have hs := SV.str_ok rfl (hρ x _ hx)
    refine .mk' h (v := .int .i64 (s.length : Int)) (.int .nil) fun w' _ => ?_
    rw [hop]
    simp [hs, S, Builtin.len_, run_underlying hu, size_mk, goInt]
  · rename_i c e hx hu
    split at h
    · rename_i n hn
      obtain ⟨A, m, cap, ev, rfl⟩ := SC.len_ok hH hn (hρ x _ hx)
      refine .mk' h (v := .int .i64 (m : Int)) (.int .nil) fun w' _ => ?_
      rw [hop]
      simp [ev, Builtin.len_, run_underlying hu, goInt]
    · cases h
  · cases h
/-! ### Structs that are built -/
def zeroC (P : Program) (E : TE) (T : TypeId) : Option (List (SC E)) := match zeroOf P T with
  | some zs => constCs E zs
  | none => none
def spliceC (l : List (SC E)) (off : Nat) (cs : List (SC E)) : List (SC E) := l.take off ++ cs ++ l.drop (off + cs.length)
theorem splice_rel {l cs : List (SC E)} {vs us : List Value} (off : Nat) (h : All2 (RC P E z g) l vs) (h' : All2 (RC P E z g) cs us) : All2 (RC P E z g) (spliceC l off cs) (splice vs off us) := by
  unfold spliceC splice
  rw [h'.len]
  exact ((h.take off).append h').append (h.drop _)
def buildC (P : Program) (E : TE) (L : Nat → Option (SV E)) (fs : Array Field) : List (Nat × Operand) → List (SC E) → Option (List (SC E))
  | [], l => some l
  | (i, x) :: rest, l => match fs[i]?, opS E L x with
    | some q, some s => match sizeV P q.type, s.cells? with
      | some n, some cs => match Nat.beq n cs.length && Nat.ble (q.offset + cs.length) l.length with
        | true => buildC P E L fs rest (spliceC l q.offset cs)
        | false => none
      | _, _ => none
    | _, _ => none
theorem fold_splice : ∀ (us : List Value) (k off : Nat) (cells : Array Value), off + k + us.length ≤ cells.size →
    ((us.zipIdx k).foldl (fun cs (p : Value × Nat) => cs.setIfInBounds (off + p.2) p.1) cells).toList = splice cells.toList (off + k) us
  | [], k, off, cells, _ => by simp [splice]
  | u :: us, k, off, cells, h => by
    simp only [List.zipIdx_cons, List.foldl_cons]
    have hl : (u :: us).length = us.length + 1 := rfl
    rw [fold_splice us (k + 1) off _ (by simp; omega)]
    simp only [splice, Array.toList_setIfInBounds]
    have hsz : cells.toList.length = cells.size := Array.length_toList
    apply List.ext_getElem?
    intro j
    simp only [List.getElem?_append, List.getElem?_take, List.getElem?_drop, List.getElem?_set, List.length_take, List.length_append, List.length_set, List.length_cons, List.getElem?_cons]
    repeat' split
    all_goals first
      | rfl
      | omega
      | (congr 1; omega)
      | (exfalso; omega)
      | (rename_i a b; simp_all; done)
      | skip
theorem build_fill {fs : Array Field} {places : Array (Nat × Nat)} (hp : ∀ (i : Nat) (q : Field) (n : Nat), fs[i]? = some q → sizeV P q.type = some n → places[i]? = some (q.offset, n)) (hρ : OpR P E z g L ρ) :
    ∀ {ps : List (Nat × Operand)} {l l' : List (SC E)} {cells : Array Value}, buildC P E L fs ps l = some l' → All2 (RC P E z g) l cells.toList →
      ∃ cells', Instr.fill (fun i => places[i]?) cells (ps.map fun p => (p.1, ρ p.2)) = some cells' ∧ All2 (RC P E z g) l' cells'.toList
  | [], l, l', cells, h, hr => by
    simp only [buildC, Option.some.injEq] at h
    subst h
    exact ⟨cells, rfl, hr⟩
  | (i, x) :: rest, l, l', cells, h, hr => by
    simp only [buildC] at h
    split at h
    · rename_i q s hq hs
      split at h
      · rename_i n cs hn hc
        split at h
        · rename_i hb
          simp only [Bool.and_eq_true] at hb
          have hb1 := Nat.eq_of_beq_eq_true hb.1
          have hb2 := Nat.le_of_ble_eq_true hb.2
          have hcs := SV.cells_ok hc (hρ x _ hs)
          have hlen : cs.length = (ρ x).cells.size := by rw [hcs.len, Array.length_toList]
          have hll : l.length = cells.size := by rw [hr.len, Array.length_toList]
          have hsz : (ρ x).cells.size = n := by omega
          have hfit : q.offset + (ρ x).cells.size ≤ cells.size := by omega
          have hnext := build_fill hp hρ h (cells := ((ρ x).cells.zipIdx.foldl (fun cs (p : Value × Nat) => cs.setIfInBounds (q.offset + p.2) p.1) cells)) (by
            have e : (ρ x).cells.zipIdx.foldl (fun cs (p : Value × Nat) => cs.setIfInBounds (q.offset + p.2) p.1) cells = (((ρ x).cells.toList.zipIdx 0).foldl (fun cs (p : Value × Nat) => cs.setIfInBounds (q.offset + p.2) p.1) cells) := by
              rw [← Array.foldl_toList, Array.toList_zipIdx]
            rw [e, fold_splice _ 0 q.offset cells (by rw [Array.length_toList]; omega), Nat.add_zero]
            exact splice_rel _ hr hcs)
          obtain ⟨cells', h1, h2⟩ := hnext
          refine ⟨cells', ?_, h2⟩
          simp only [List.map_cons, Instr.fill, hp i q n hq hn]
          rw [if_neg (by simp; omega)]
          exact h1
        · cases h
      · cases h
    · cases h
def sizesB (P : Program) : List Field → Bool
  | [] => true
  | q :: fs => (match sizeV P q.type with | some _ => true | none => false) && sizesB P fs
def placesOf (P : Program) (fs : List Field) : List (Nat × Nat) := fs.map fun q => (q.offset, (sizeV P q.type).getD 0)
theorem place_run {q : Field} {n : Nat} (hn : sizeV P q.type = some n) (w : World) : (Functor.map (Prod.mk q.offset) (sizeOf q.type)).run P w = .ok (q.offset, n) w := by
  cases hi : P.info? q.type with
  | none => simp [sizeV, hi] at hn
  | some inf =>
    have : inf.size = n := by simpa [sizeV, hi] using hn
    simp [sizeOf, typeInfo, hi, this]
theorem places_run (w : World) : ∀ {fs : List Field}, sizesB P fs = true → (fs.mapM fun f => Functor.map (Prod.mk f.offset) (sizeOf f.type)).run P w = .ok (placesOf P fs) w
  | [], _ => rfl
  | q :: fs, h => by
    simp only [sizesB, Bool.and_eq_true] at h
    have h1 := places_run w h.2
    cases hn : sizeV P q.type with
    | none => rw [hn] at h; simp at h
    | some n =>
      have h2 := place_run (P := P) hn w
      rw [List.mapM_cons, Sem.run_bind, h2]
      simp only [Result.andThen_ok, Sem.run_bind, h1, Sem.run_pure]
      simp [placesOf, hn]
theorem places_get {fs : Array Field} (i : Nat) (q : Field) (n : Nat) (hq : fs[i]? = some q) (hn : sizeV P q.type = some n) : (placesOf P fs.toList).toArray[i]? = some (q.offset, n) := by
  simp [placesOf, hq, hn]
def buildS (E : TE) (L : Nat → Option (SV E)) (s : Nat) : List (Nat × Operand) → List (SC E) → Option (List (SC E))
  | [], l => some l
  | (i, x) :: rest, l => match opS E L x with
    | some v => match v.cells? with
      | some cs => match Nat.beq s cs.length && Nat.ble (i * s + cs.length) l.length with
        | true => buildS E L s rest (spliceC l (i * s) cs)
        | false => none
      | none => none
    | none => none
theorem buildS_fill {s : Nat} (hρ : OpR P E z g L ρ) : ∀ {ps : List (Nat × Operand)} {l l' : List (SC E)} {cells : Array Value}, buildS E L s ps l = some l' → All2 (RC P E z g) l cells.toList →
      ∃ cells', Instr.fill (fun i => some (i * s, s)) cells (ps.map fun p => (p.1, ρ p.2)) = some cells' ∧ All2 (RC P E z g) l' cells'.toList
  | [], l, l', cells, h, hr => by
    simp only [buildS, Option.some.injEq] at h
    subst h
    exact ⟨cells, rfl, hr⟩
  | (i, x) :: rest, l, l', cells, h, hr => by
    simp only [buildS] at h
    split at h
    · rename_i v hv
      split at h
      · rename_i cs hc
        split at h
        · rename_i hb
          simp only [Bool.and_eq_true] at hb
          have hb1 := Nat.eq_of_beq_eq_true hb.1
          have hb2 := Nat.le_of_ble_eq_true hb.2
          have hcs := SV.cells_ok hc (hρ x _ hv)
          have hlen : cs.length = (ρ x).cells.size := by rw [hcs.len, Array.length_toList]
          have hll : l.length = cells.size := by rw [hr.len, Array.length_toList]
          have hnext := buildS_fill hρ h (cells := ((ρ x).cells.zipIdx.foldl (fun cs (p : Value × Nat) => cs.setIfInBounds (i * s + p.2) p.1) cells)) (by
            have e : (ρ x).cells.zipIdx.foldl (fun cs (p : Value × Nat) => cs.setIfInBounds (i * s + p.2) p.1) cells = (((ρ x).cells.toList.zipIdx 0).foldl (fun cs (p : Value × Nat) => cs.setIfInBounds (i * s + p.2) p.1) cells) := by
              rw [← Array.foldl_toList, Array.toList_zipIdx]
            rw [e, fold_splice _ 0 (i * s) cells (by rw [Array.length_toList]; omega), Nat.add_zero]
            exact splice_rel _ hr hcs)
          obtain ⟨cells', h1, h2⟩ := hnext
          refine ⟨cells', ?_, h2⟩
          simp only [List.map_cons, Instr.fill]
          rw [if_neg (by simp; omega)]
          exact h1
        · cases h
      · cases h
    · cases h
/-- An array that is written out. -/
def qBuildArr (P : Program) (E : TE) (L : Nat → Option (SV E)) (T e : TypeId) (ps : Array (Nat × Operand)) {R : Type} (k : SV E → Up E → Option R) : Option R :=
  match zeroC P E T, sizeV P e with
  | some l, some s => match buildS E L s ps.toList l with
    | some l' => k (.v (.agg l')) none
    | none => none
  | _, _ => none
def qBuild (P : Program) (E : TE) (L : Nat → Option (SV E)) (T : TypeId) (ps : Array (Nat × Operand)) {R : Type} (k : SV E → Up E → Option R) : Option R :=
  match P.underlying T with
  | some (.struct fs) => match zeroC P E T with
    | some l => match sizesB P fs.toList, buildC P E L fs ps.toList l with
      | true, some l' => k (.v (.agg l')) none
      | _, _ => none
    | none => none
  | some (.array _ e) => qBuildArr P E L T e ps k
  | _ => none
theorem qBuildArr_ok {T e : TypeId} {m : Nat} {ps : Array (Nat × Operand)} (ho : o.op = .build T ps) (hu : P.underlying T = some (.array m e)) (hρ : OpR P E z g L ρ) (h : qBuildArr P E L T e ps k = some r) : Good P E z g nx I H ρ o k r := by
  unfold qBuildArr at h
  split at h
  · rename_i l s hz hs
    split at h
    · rename_i l' hb
      unfold zeroC at hz
      split at hz
      · rename_i zs hzs
        have hzr : All2 (RC P E z g) l zs := constCs_ok hz
        obtain ⟨cells', hf, hr⟩ := buildS_fill hρ hb (cells := zs.toArray) hzr
        refine .mk' h (v := .agg cells') ⟨cells'.toList, rfl, hr⟩ fun w' _ => ?_
        unfold zeroOf at hzs
        split at hzs
        · rename_i inf hi
          split at hzs
          · rename_i zv hzv
            obtain rfl := Option.some.inj hzs
            unfold sizeV at hs
            cases hq : P.info? e with
            | none => simp [hq] at hs
            | some inf2 =>
              have hs' : inf2.size = s := by simpa [hq] using hs
              unfold execOp
              rw [ho]
              simp only [Instr.build]
              simp [Sem.run_bind, zeroValue, typeInfo, hi, hzv, run_underlying hu, sizeOf, hq, hs']
              simp only [Array.toArray_toList] at hf
              rw [hf]
              rfl
          · cases hzs
        · cases hzs
      · cases hz
    · cases h
  · cases h
theorem qBuild_ok {T : TypeId} {ps : Array (Nat × Operand)} (ho : o.op = .build T ps) (hρ : OpR P E z g L ρ) (h : qBuild P E L T ps k = some r) : Good P E z g nx I H ρ o k r := by
  unfold qBuild at h
  split at h
  · rename_i fs hu
    split at h
    case h_2 => cases h
    rename_i l hz
    split at h
    · rename_i l' hsz hb
      unfold zeroC at hz
      split at hz
      · rename_i zs hzs
        have hzr : All2 (RC P E z g) l zs := constCs_ok hz
        obtain ⟨cells', hf, hr⟩ := build_fill (places := (placesOf P fs.toList).toArray) places_get hρ hb (cells := zs.toArray) hzr
        refine .mk' h (v := .agg cells') ⟨cells'.toList, rfl, hr⟩ fun w' _ => ?_
        have hpl := places_run (P := P) w' hsz
        unfold zeroOf at hzs
        split at hzs
        · rename_i inf hi
          split at hzs
          · rename_i zv hzv
            obtain rfl := Option.some.inj hzs
            have e1 : (fs.mapM fun f => Functor.map (Prod.mk f.offset) (sizeOf f.type)).run P w' = .ok (placesOf P fs.toList).toArray w' := by
              have e2 : (fs.mapM fun f => Functor.map (Prod.mk f.offset) (sizeOf f.type) : Sem (Array (Nat × Nat))) = (Functor.map List.toArray (fs.toList.mapM fun f => Functor.map (Prod.mk f.offset) (sizeOf f.type))) := by
                rw [← List.mapM_toArray]
              rw [e2, map_eq_pure_bind, Sem.run_bind, hpl]
              rfl
            unfold execOp
            rw [ho]
            simp only [Instr.build]
            simp [Sem.run_bind, zeroValue, typeInfo, hi, hzv, run_underlying hu, e1]
            simp only [Array.toArray_toList, List.getElem?_toArray] at hf
            rw [hf]
            rfl
          · cases hzs
        · cases hzs
      · cases hz
    · cases h
  · rename_i m e hu; exact qBuildArr_ok ho hu hρ h
  · cases h
/-! ### Closures -/
def capsC (E : TE) (L : Nat → Option (SV E)) : List Operand → Option (List Nat)
  | [] => some []
  | x :: l => match opS E L x with
    | some (.v (.one (.ptr id 0))) => match capsC E L l with
      | some ids => some (id :: ids)
      | none => none
    | _ => none
theorem capsC_ok (hρ : OpR P E z g L ρ) : ∀ {xs : List Operand} {ids : List Nat}, capsC E L xs = some ids → All2 (fun id u => ∃ l, g id = some l ∧ u = Value.pointer (some ⟨l.b, 0, none⟩)) ids (xs.map ρ)
  | [], ids, h => by simp only [capsC, Option.some.injEq] at h; subst h; exact .nil
  | x :: l, ids, h => by
    simp only [capsC] at h
    split at h
    · rename_i id hx
      split at h
      · rename_i ids' hl
        obtain rfl := Option.some.inj h
        exact .cons (hρ x _ hx) (capsC_ok hρ hl)
      · cases h
    · cases h
def qMakeFunc (E : TE) (L : Nat → Option (SV E)) (f : Fn) (first caps : Array Operand) {R : Type} (k : SV E → Up E → Option R) : Option R :=
  match f, first.toList, capsC E L caps.toList with
  | .func f, [], some ids => k (.v (.one (.clo f ids))) none
  | _, _, _ => none
theorem qMakeFunc_ok {f : Fn} {first caps : Array Operand} (ho : o.op = .makeFunc f first caps) (hρ : OpR P E z g L ρ) (h : qMakeFunc E L f first caps k = some r) : Good P E z g nx I H ρ o k r := by
  unfold qMakeFunc at h
  split at h
  · rename_i f ids hf hc
    have hcr := capsC_ok hρ hc
    refine .mk' h (v := .func (.func f) #[] (caps.toList.map ρ).toArray) ⟨_, rfl, hcr⟩ fun w' _ => ?_
    unfold execOp
    rw [ho]
    have : first = #[] := by cases first; simp at hf; subst hf; rfl
    subst this
    simp only [Instr.makeFunc, Sem.run_bind, Sem.run_pure, Result.andThen_ok]
    rw [show caps.map ρ = (caps.toList.map ρ).toArray by rw [← List.map_toArray]]
    simp
  · cases h
/-! ### Conversions -/
theorem rows_int {kk : IntKind} : ∀ {xs : List Int} {rows : List (List Value)}, Rows E z (.int kk) xs rows → rows.length = xs.length → rows = xs.map fun b => [Value.int kk b] := by
  intro xs rows h hl
  apply List.ext_getElem?
  intro i
  rw [List.getElem?_map]
  by_cases hi : i < xs.length
  · rw [List.getElem?_eq_getElem hi, List.getElem?_eq_getElem (by omega)]
    have := h i xs[i] _ (List.getElem?_eq_getElem hi) (List.getElem?_eq_getElem (by omega : i < rows.length))
    obtain ⟨vs', e, hn⟩ := RD.int_inv (this : RD E z [.int kk] (xs[i], ()) _)
    rw [hn.nil_inv] at e
    rw [e]; rfl
  · rw [List.getElem?_eq_none (by omega), List.getElem?_eq_none (by omega)]; rfl
def SC.bytes (H : Nat → Option (Obj E)) : SC E → Option (List Int)
  | .dt (.sl (.int .u8)) xs => some xs
  | .own id => match H id with
    | some (.fr (.int .u8) xs) => some xs
    | some (.row _ (.int .u8) xs _) => some xs
    | _ => none
  | .nils => some []
  | _ => none
theorem SC.bytes_ok {c : SC E} {v : Value} {xs : List Int} {w' : World} (hH : HR P E Bs F0 w0 W z g H) (h : c.bytes H = some xs) (hr : RC P E z g c v) (hw' : Stands z g H W w') :
    ∃ A n cap F, v = .slice A n cap ∧ SlF F 1 A n (xs.map fun b => [Value.int .u8 b]) w' := by
  unfold SC.bytes at h
  split at h
  · rename_i ys
    obtain rfl := Option.some.inj h
    obtain ⟨A, cap, rows, ev, hsl, hcap, hrows⟩ := SC.fro_ok (c := .dt (.sl (.int .u8)) ys) hH rfl hr
    rw [rows_int hrows hsl.1] at hsl
    exact ⟨A, _, cap, _, ev, hsl.stand hw'.1⟩
  · rename_i id
    split at h
    · rename_i ys hi
      obtain rfl := Option.some.inj h
      obtain ⟨A, cap, rows, ev, hsl, hcap, hrows⟩ := SC.fro_ok (c := .own id) (l := ⟨.int .u8, ys⟩) hH (by simp only [SC.fro, hi]) hr
      rw [rows_int hrows hsl.1] at hsl
      exact ⟨A, _, cap, _, ev, hsl.stand hw'.1⟩
    · rename_i e ys foc hi
      obtain rfl := Option.some.inj h
      obtain ⟨l, h1, rfl⟩ := hr
      obtain ⟨l2, rows2, h3, hn3, hc3, hown3, hlen3, hrl3, hrows3, _⟩ := hw'.hold hH _ _ hi
      rw [h1] at h3; obtain rfl := Option.some.inj h3
      have hsl3 := row_reads (w := w') (e := e) (cap := l.cap) ⟨hown3, hlen3, hrl3⟩
      rw [rows_int hrows3 (by rw [hlen3, hn3])] at hsl3
      have hc1 : l.c = 1 := hc3
      rw [hc1] at hsl3
      exact ⟨_, _, _, _, rfl, hsl3⟩
    · cases h
  · obtain rfl := Option.some.inj h
    simp only [RC] at hr
    subst hr
    exact ⟨none, 0, 0, fun _ => False, rfl, SlF.nil _ _ _ _⟩
  · cases h
def qConv (P : Program) (E : TE) (L : Nat → Option (SV E)) (H : Nat → Option (Obj E)) (o : Oper) (src dst : TypeId) (x : Operand) {R : Type} (k : SV E → Up E → Option R) : Option R :=
  match opS E L x, P.underlying dst with
  | some (.v (.one (.dt (.int _) _))), some (.int _) => qPure P E L o k
  | some (.v (.one (.dt .str s))), some .string => match P.underlying src with
    | some .string => k (.v (.one (.dt .str s))) none
    | _ => none
  | some (.v (.one c)), some .string => match P.underlying src with
    | some (.slice e) => match P.underlying e, c.bytes H with
      | some (.int .u8), some xs => k (.v (.one (.dt .str (bytesS xs)))) none
      | _, _ => none
    | _ => none
  | _, _ => none
theorem qConv_ok {src dst : TypeId} {x : Operand} (ho : o.op = .convert src dst x) (hρ : OpR P E z g L ρ) (hH : HR P E Bs F0 w0 W z g H) (hI : ∀ w', I w' → Stands z g H W w') (h : qConv P E L H o src dst x k = some r) : Good P E z g nx I H ρ o k r := by
  unfold qConv at h
  split at h
  · exact qPure_ok hρ h
  · rename_i s hx hd
    split at h
    · rename_i hs
      have e := SV.str_ok rfl (hρ x _ hx)
      refine .mk' h (v := S s) (.str .nil) fun w' _ => ?_
      unfold execOp
      rw [ho]
      simp [e, S, convert, run_underlying hs, run_underlying hd]
    · cases h
  · rename_i c hx hd
    split at h
    · rename_i e hs
      split at h
      · rename_i xs he hb
        refine .mk' h (v := S (bytesS xs)) (.str .nil) fun w' hw' => ?_
        obtain ⟨A, n, cap, F, ev, hsl⟩ := SC.bytes_ok hH hb (hρ x _ hx) (hI w' hw')
        exact run_bytes_str ho hs he hd ev hsl
      · cases h
    · cases h
  · cases h
/-! ### Every quiet operation -/
def qOp (P : Program) (E : TE) (eqs : List (Nat × Nat)) (L : Nat → Option (SV E)) (H : Nat → Option (Obj E)) (nx : Nat) (o : Oper) {R : Type} (k : SV E → Up E → Option R) : Option R :=
  match o.op with
  | .move x => qMove E L x k
  | .assign x => qMove E L x k
  | .nilCheck x => qNil E L x k
  | .extract x i => qExtract E L x i k
  | .field T x f => qField P E L T x f k
  | .load T x => qLoad P E L H T x k
  | .fieldAddr T x f => qFieldAddr P E L T x f k
  | .unOp _ _ _ => qPure P E L o k
  | .binOp op T x y _ => qBin P E L H eqs o op T x y k
  | .index T x i => qIndex P E L T x i k
  | .indexAddr T x i => match P.underlying T with
    | some (.array m e) => qIndexArr P E L m e x i k
    | _ => qIndexAddr P E L H nx T x i k
  | .slice T x lo hi none => qSlice P E L H T x lo hi k
  | .convert src dst x => qConv P E L H o src dst x k
  | .build T ps => qBuild P E L T ps k
  | .makeFunc f first caps => qMakeFunc E L f first caps k
  | .call { callee := .builtin .len, args := ⟨[x]⟩, argTypes := ⟨[T]⟩ } => qLen P E L H T x k
  | .call { callee := .builtin .max, args := _, argTypes := _ } => qPure P E L o k
  | .call { callee := .builtin .min, args := _, argTypes := _ } => qPure P E L o k
  | _ => none
theorem qOp_ok {eqs : List (Nat × Nat)} (heq : ∀ p ∈ eqs, EqFact P E p.1 p.2) (hnx : g nx = none) (hρ : OpR P E z g L ρ) (hH : HR P E Bs F0 w0 W z g H) (hI : ∀ w', I w' → Stands z g H W w') (h : qOp P E eqs L H nx o k = some r) : Good P E z g nx I H ρ o k r := by
  unfold qOp at h
  split at h
  case h_1 x ho => exact qMove_ok (.inl ho) hρ h
  case h_2 x ho => exact qMove_ok (.inr ho) hρ h
  case h_3 x ho => exact qNil_ok ho hρ h
  case h_4 x i ho => exact qExtract_ok ho hρ h
  case h_5 T x f ho => exact qField_ok ho hρ h
  case h_6 T x ho => exact qLoad_ok ho hρ hH hI h
  case h_7 T x f ho => exact qFieldAddr_ok ho hρ h
  case h_8 => exact qPure_ok hρ h
  case h_9 op T x y yt ho => exact qBin_ok ho heq hρ hH h
  case h_10 T x i ho => exact qIndex_ok ho hρ h
  case h_11 T x i ho =>
    split at h
    · rename_i m e hu; exact qIndexArr_ok ho hu hρ h
    · exact qIndexAddr_ok ho hnx hρ hH hI h
  case h_12 T x lo hi ho => exact qSlice_ok ho hρ hH h
  case h_13 src dst x ho => exact qConv_ok ho hρ hH hI h
  case h_14 T ps ho => exact qBuild_ok ho hρ h
  case h_15 f first caps ho => exact qMakeFunc_ok ho hρ h
  case h_16 x T ho => exact qLen_ok ho hρ hH h
  case h_17 => exact qPure_ok hρ h
  case h_18 => exact qPure_ok hρ h
  case h_19 => cases h
end
end Rt
end Go
