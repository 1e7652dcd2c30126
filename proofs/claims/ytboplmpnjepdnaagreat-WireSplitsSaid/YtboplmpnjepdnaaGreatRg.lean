/-
  The second engine, seventh text: append, make, slices that are written out, copy. No program in sight.
-/
import Derived.Test.YtboplmpnjepdnaaGreatRf
namespace Go
namespace Rt
open Go.RowKit

section
variable {P : Program} {E : TE} {z : Fz} {g : Ga} {nx : Nat}
variable {L : Nat → Option (SV E)} {H : Nat → Option (Obj E)} {ρ : Operand → Value} {w w0 : World} {o : Oper} {R : Type} {r : R} {Bs : List Nat} {F0 : Nat → Prop}
variable {k : Option (SV E) → Chs E → Option R}
/-! ### Lists that can be read -/
def castL {t t' : Ty} (h : t' = t) (xs : List (Den E.S t')) : List (Den E.S t) := h ▸ xs
def SC.rdT (H : Nat → Option (Obj E)) (t : Ty) : SC E → Option (List (Den E.S t))
  | .dt (.sl t') xs => if h : t' = t then some (castL h xs) else none
  | .own id => match H id with
    | some (.row _ t' xs _) => if h : t' = t then some (castL h xs) else none
    | some (.fr t' xs) => if h : t' = t then some (castL h xs) else none
    | _ => none
  | .nils => some []
  | _ => none
theorem SC.rdT_ok {t : Ty} {c : SC E} {xs : List (Den E.S t)} {v : Value} (hH : HR P E Bs F0 w0 w z g H) (h : c.rdT H t = some xs) (hr : RC P E z g c v) :
    ∃ A cap rows F, v = .slice A xs.length cap ∧ SlF F (E.size t) A xs.length rows w ∧ xs.length ≤ cap ∧ Rows E z t xs rows := by
  unfold SC.rdT at h
  split at h
  · rename_i t' ys
    split at h
    · rename_i ht
      subst ht
      obtain rfl := Option.some.inj h
      obtain ⟨A, cap, rows, ev, hsl, hcap, hrows⟩ := SC.fro_ok (c := .dt (.sl t') ys) hH rfl hr
      exact ⟨A, cap, rows, _, ev, hsl.stand hH.fz, hcap, hrows⟩
    · cases h
  · rename_i id
    split at h
    · rename_i e t' ys foc hi
      split at h
      · rename_i ht
        subst ht
        obtain rfl := Option.some.inj h
        obtain ⟨l, h1, rfl⟩ := hr
        obtain ⟨l2, rows2, h3, hn3, hc3, hown3, hlen3, hrl3, hrows3, _⟩ := hH.hold _ _ hi
        rw [h1] at h3; obtain rfl := Option.some.inj h3
        have hsl3 := row_reads (w := w) (e := e) (cap := l.cap) ⟨hown3, hlen3, hrl3⟩
        have hcap := (Own.cap_le hown3).1
        rw [hc3, hn3] at hsl3
        rw [hn3] at hcap
        exact ⟨_, _, _, _, by rw [hn3]; rfl, hsl3, hcap, hrows3⟩
      · cases h
    · rename_i t' ys hi
      split at h
      · rename_i ht
        subst ht
        obtain rfl := Option.some.inj h
        obtain ⟨A, cap, rows, ev, hsl, hcap, hrows⟩ := SC.fro_ok (c := .own id) (l := ⟨t', ys⟩) hH (by simp only [SC.fro, hi]) hr
        exact ⟨A, cap, rows, _, ev, hsl.stand hH.fz, hcap, hrows⟩
      · cases h
    · cases h
  · obtain rfl := Option.some.inj h
    simp only [RC] at hr
    subst hr
    exact ⟨none, 0, [], fun _ => False, rfl, SlF.nil _ _ _ _, Nat.le_refl _, fun i x r h => by simp at h⟩
  · cases h
theorem Rows.cells {t : Ty} {xs : List (Den E.S t)} {rows : List (List Value)} (h : Rows E z t xs rows) (hl : rows.length = xs.length) : OneRows rows ∧ ∀ q ∈ rows, q.length = E.size t := by
  have key : ∀ q ∈ rows, ∃ x, RD E z (E.flat t) (E.fl t x) q := fun q hq => by
    obtain ⟨i, hi⟩ := List.mem_iff_getElem?.1 hq
    have hlt := (List.getElem?_eq_some_iff.1 hi).1
    exact ⟨_, h i _ _ (List.getElem?_eq_getElem (by omega : i < xs.length)) hi⟩
  exact ⟨fun q hq => let ⟨x, hx⟩ := key q hq; hx.cells, fun q hq => let ⟨x, hx⟩ := key q hq; hx.len⟩
theorem Rows.append {t : Ty} {xs ys : List (Den E.S t)} {rows news : List (List Value)} (h : Rows E z t xs rows) (h' : Rows E z t ys news) (hl : rows.length = xs.length) : Rows E z t (xs ++ ys) (rows ++ news) := by
  intro i x r hx hr
  rw [List.getElem?_append] at hx hr
  rw [hl] at hr
  split at hx
  · rename_i hc; rw [if_pos hc] at hr; exact h i x r hx hr
  · rename_i hc; rw [if_neg hc] at hr; exact h' _ x r hx hr
/-! ### append -/
def bytesV (P : Program) (e : TypeId) : Nat := match P.info? e with
  | some i => i.bytes
  | none => 0
def appK (P : Program) (E : TE) (H : Nat → Option (Obj E)) (nx : Nat) (e : TypeId) (t : Ty) (xs : List (Den E.S t)) (cy : SC E) (del : Chs E) {R : Type} (k : Option (SV E) → Chs E → Option R) : Option R :=
  match cy.rdT H t, elemB P e (E.size t) (bytesV P e) with
  | some ys, true => Option.bind (room (bytesV P e) xs ys) fun zs => k (some (.v (.one (.own nx)))) ((nx, some (.row e t zs [])) :: del)
  | _, _ => none
def lApp (P : Program) (E : TE) (L : Nat → Option (SV E)) (H : Nat → Option (Obj E)) (nx : Nat) (T : TypeId) (x y : Operand) {R : Type} (k : Option (SV E) → Chs E → Option R) : Option R :=
  match opS E L x, opS E L y, P.underlying T with
  | some (.v (.one cx)), some (.v (.one cy)), some (.slice e) => match cx with
    | .own id => match H id with
      | some (.row e' t xs _) => match Nat.beq e' e with
        | true => appK P E H nx e t xs cy [(id, none)] k
        | false => none
      | _ => none
    | .pre id n => match H id with
      | some (.row e' t xs _) => match Nat.beq e' e with
        | true => Option.bind (subI xs 0 n) fun ys => appK P E H nx e t ys cy [(id, none)] k
        | false => none
      | _ => none
    | .nils => match E.ty e with
      | some t => appK P E H nx e t [] cy [] k
      | none => none
    | _ => none
  | _, _, _ => none
theorem appK_ok {T e : TypeId} {t : Ty} {x y : Operand} {xs : List (Den E.S t)} {cy : SC E} {del : Chs E} {A : Option Addr} {cap : Nat} {rows : List (List Value)} (ho : o.op = .call { callee := .builtin .append, args := #[x, y], argTypes := #[T, T] }) (hu : P.underlying T = some (.slice e))
    (hnx : Fresh g nx) (hH : HR P E Bs F0 w0 w z g H) (ex : ρ x = .slice A xs.length cap) (hy : RC P E z g cy (ρ y)) (hown : w.ownsRow 0 e (E.size t) (.slice A xs.length cap) xs.length rows.flatten) (hlen : rows.length = xs.length) (hrows : Rows E z t xs rows)
    (i : Nat) (hC : ∀ q, rowF A q → ∃ o, H i = some o ∧ fpO g i o q) (hdel : ∀ (o' : Obj E) j p, upH H ((nx, some o') :: del) j = some p → (j = nx ∧ p = o') ∨ (j ≠ nx ∧ (j ≠ i ∨ ∀ q, ¬ rowF A q) ∧ H j = some p))
    (h : appK P E H nx e t xs cy del k = some r) : Turns P E Bs F0 w0 w z g nx H ρ o false k r := by
  unfold appK at h
  split at h
  · rename_i ys hys hel
    obtain ⟨zs, hz, h⟩ := bind_some h
    have hEl := elemOK hu hel
    obtain ⟨A2, cap2, news, F, ey, hsl, hcap2, hnews⟩ := SC.rdT_ok hH hys hy
    obtain ⟨hone, hnl⟩ := hnews.cells hsl.1
    obtain ⟨_, hrl⟩ := hrows.cells hlen
    have hS := Sep.single (L := match A with | some a => [a.block] | none => []) (x := .row e (E.size t) A xs.length cap rows) ⟨hown, hlen, hrl⟩ (fun q hq => by
      obtain ⟨a, rfl, rfl⟩ := hq
      simp)
    obtain ⟨A', cap', w', hrun, hS', hgrow, hoth⟩ := run_append (P := P) (k := 0) ho hEl ex ey hS rfl hsl hone rfl rfl hz hnl
    obtain ⟨h1, h2, rfl⟩ := room_some hz
    have hh := hS'.hold (.row e (E.size t) A' (xs.length + ys.length) cap' (rows ++ news)) (by simp)
    obtain ⟨hown', hlen', hrl'⟩ := hh
    have hfp := hS'.own (.row e (E.size t) A' (xs.length + ys.length) cap' (rows ++ news)) (by simp) trivial
    have hl : (xs ++ ys).length = xs.length + ys.length := List.length_append
    refine ⟨_, _, z, g.put nx ⟨A', (xs ++ ys).length, cap', E.size t, 0, 0⟩, w', _, h, ⟨hrun, ⟨_, rfl, _, Ga.put_self _ _ _, by rw [hl]⟩, Fz.Le.refl z, Ga.le_put hnx.self, hnx.put _, ?_, fun h => by cases h⟩⟩
    refine hH.turn (Ga.le_put hnx.self) (i := i) (i' := nx) (C := rowF A) hC hgrow hoth (o' := .row e t (xs ++ ys) []) ?_ (fun q hq => ?_) fun j p hj => ?_
    · refine ⟨_, rows ++ news, Ga.put_self _ _ _, rfl, rfl, ?_, ?_, hrl', hrows.append hnews hlen, fun p hp => nomatch hp⟩
      · simp only [hl]; exact hown'
      · simp only [hl]; exact hlen'
    · obtain ⟨l2, a2, h5, h6, rfl⟩ := hq
      rw [Ga.put_self] at h5
      obtain rfl := Option.some.inj h5
      rcases hfp a2.block ⟨a2, h6, rfl⟩ with h7 | h7
      · exact .inr h7
      · left
        cases A with
        | none => simp at h7
        | some a =>
          simp at h7
          exact ⟨a, rfl, h7⟩
    · exact hdel _ j p hj
  · cases h
theorem ownsRow_pre {e c n m cap : Nat} {A : Option Addr} {rows : List (List Value)} (h : w.ownsRow 0 e c (.slice A n cap) n rows.flatten) (hl : rows.length = n) (hr : ∀ q ∈ rows, q.length = c) (hm : m ≤ n) : w.ownsRow 0 e c (.slice A m cap) m (rows.take m).flatten := by
  have hfl : (rows.take m).flatten = rows.flatten.take (m * c) := by
    have h1 : rows.flatten = (rows.take m).flatten ++ (rows.drop m).flatten := by rw [← List.flatten_append, List.take_append_drop]
    have h2 : (rows.take m).flatten.length = m * c := by
      rw [length_flatten_rows (c := c) (fun q hq => hr q (List.mem_of_mem_take hq)), List.length_take]
      congr 1; omega
    rw [h1, List.take_left' h2]
  refine ⟨?_, ?_⟩
  · rw [length_flatten_rows (c := c) (fun q hq => hr q (List.mem_of_mem_take hq)), List.length_take]
    congr 1; omega
  · rcases h.2 with ⟨h2, h3⟩ | ⟨b, cap', cur, hv, hb, hh, hnc, hcm, hcs, htk⟩
    · injection h2 with e1 e2 e3
      subst h3
      obtain rfl : m = 0 := by omega
      exact .inl ⟨by rw [e1, e3], rfl⟩
    · injection hv with e1 _ e3
      subst e3
      refine .inr ⟨b, cap, cur, by rw [e1], hb, hh, by omega, hcm, hcs, ?_⟩
      rw [hfl, ← htk, List.take_take]
      congr 1
      have : m * c ≤ n * c := Nat.mul_le_mul_right c hm
      omega
theorem lApp_ok {T : TypeId} {x y : Operand} (ho : o.op = .call { callee := .builtin .append, args := #[x, y], argTypes := #[T, T] }) (hnx : Fresh g nx) (hρ : OpR P E z g L ρ) (hH : HR P E Bs F0 w0 w z g H) (h : lApp P E L H nx T x y k = some r) : Turns P E Bs F0 w0 w z g nx H ρ o false k r := by
  unfold lApp at h
  split at h
  · rename_i cx cy e hx hy hu
    have ex := hρ x _ hx
    split at h
    · rename_i id
      split at h
      · rename_i e' t xs foc hi
        split at h
        · rename_i hb
          obtain rfl := Nat.eq_of_beq_eq_true hb
          obtain ⟨l, h1, ev⟩ := ex
          obtain ⟨l2, rows, h3, hn, hc, hown, hlen, hrl, hrows, _⟩ := hH.hold _ _ hi
          rw [h1] at h3; obtain rfl := Option.some.inj h3
          rw [hc, hn] at hown
          rw [hn] at ev hlen
          exact appK_ok ho hu hnx hH ev (hρ y _ hy) hown hlen hrows id (fun q ⟨a, ha, hq⟩ => ⟨_, hi, l, a, h1, ha, hq⟩) (fun o' j p hj => by
            rcases upH_two hj with h5 | ⟨h5, h6, h7⟩
            · exact .inl h5
            · exact .inr ⟨h5, .inl h6, h7⟩) h
        · cases h
      · cases h
    · rename_i id n
      split at h
      · rename_i e' t xs foc hi
        split at h
        · rename_i hb
          obtain rfl := Nat.eq_of_beq_eq_true hb
          obtain ⟨ys, hys, h⟩ := bind_some h
          obtain ⟨h00, h01, h02, rfl⟩ := subI_some hys
          obtain ⟨l, h1, ev⟩ := ex
          obtain ⟨l2, rows, h3, hn, hc, hown, hlen, hrl, hrows, _⟩ := hH.hold _ _ hi
          rw [h1] at h3; obtain rfl := Option.some.inj h3
          have hm : n.toNat ≤ l.n := by omega
          have hpre := ownsRow_pre hown hlen hrl hm
          have hyl : ((xs.take n.toNat).drop (0 : Int).toNat).length = n.toNat := by simp; omega
          have hsub := rows_sub hrows 0 n.toNat
          simp only [List.drop_zero] at hsub
          simp only [Int.toNat_zero, List.drop_zero] at h hyl
          rw [← hyl] at ev hpre
          rw [hc] at hpre
          exact appK_ok ho hu hnx hH ev (hρ y _ hy) (rows := rows.take n.toNat) (by rw [hyl] at hpre ⊢; exact hpre) (by rw [List.length_take, hyl]; omega) hsub id (fun q ⟨a, ha, hq⟩ => ⟨_, hi, l, a, h1, ha, hq⟩) (fun o' j p hj => by
            rcases upH_two hj with h5 | ⟨h5, h6, h7⟩
            · exact .inl h5
            · exact .inr ⟨h5, .inl h6, h7⟩) h
        · cases h
      · cases h
    · split at h
      · rename_i t ht
        have ev : ρ x = .slice none 0 0 := ex
        exact appK_ok (xs := ([] : List (Den E.S t))) (del := []) (A := none) (cap := 0) (rows := []) ho hu hnx hH ev (hρ y _ hy) ⟨by simp, .inl ⟨rfl, rfl⟩⟩ rfl (fun i x r h => by simp at h) nx (fun q ⟨a, ha, _⟩ => nomatch ha) (fun o' j p hj => by
            rcases upH_one hj with h5 | ⟨h5, h7⟩
            · exact .inl h5
            · exact .inr ⟨h5, .inr (fun q ⟨a, ha, _⟩ => nomatch ha), h7⟩) h
      · cases h
    · cases h
  · cases h
/-! ### make -/
theorem HR.row_new {e : TypeId} {t : Ty} {xs : List (Den E.S t)} {A : Option Addr} {cap n : Nat} {rows : List (List Value)} {w' : World} (h : HR P E Bs F0 w0 w z g H) (hnx : Fresh g nx) (hx : Ext w w') (hn : xs.length = n)
    (hown : w'.ownsRow 0 e (E.size t) (.slice A n cap) n rows.flatten) (hlen : rows.length = n) (hrows : Rows E z t xs rows) (hfp : ∀ q, rowF A q → w.heap.size ≤ q) :
    HR P E Bs F0 w0 w' z (g.put nx ⟨A, n, cap, E.size t, 0, 0⟩) (upH H [(nx, some (.row e t xs []))]) := by
  refine h.add (o := .row e t xs []) hx hnx.self ⟨_, rows, Ga.put_self _ _ _, hn.symm, rfl, hown, hlen, (hrows.cells (by omega)).2, hrows, fun p hp => nomatch hp⟩ (fun q hq => ?_) fun j p hj => upH_one hj
  obtain ⟨l2, a2, h5, h6, rfl⟩ := hq
  rw [Ga.put_self] at h5
  obtain rfl := Option.some.inj h5
  exact hfp _ ⟨a2, h6, rfl⟩
def zeroD (P : Program) (E : TE) (e : TypeId) (t : Ty) : Option (Den E.S t) := match zeroC P E e with
  | some zc => match dataL E (fun _ => none) (E.flat t) zc with
    | some h => some (E.ufl t h)
    | none => none
  | none => none
def Operand.same : Operand → Operand → Bool
  | .tmp a, .tmp b => Nat.beq a b
  | .const (.int _ a), .const (.int _ b) => decide (a = b)
  | _, _ => false
def Operand.zero : Operand → Bool
  | .const (.int _ a) => decide (a = 0)
  | _ => false
def lMake (P : Program) (E : TE) (L : Nat → Option (SV E)) (nx : Nat) (T : TypeId) (x y : Operand) {R : Type} (k : Option (SV E) → Chs E → Option R) : Option R :=
  match P.underlying T with
  | some (.slice e) => match E.ty e, opS E L y with
    | some t, some (.v (.one (.dt (.int _) n))) => match zeroD P E e t, elemB P e (E.size t) (bytesV P e), Operand.same x y, Operand.zero x with
      | some zv, true, true, _ => Option.bind (makeI (bytesV P e) zv n) fun xs => k (some (.v (.one (.own nx)))) [(nx, some (.row e t xs []))]
      | some zv, true, false, true => Option.bind (makeI (bytesV P e) zv n) fun _ => k (some (.v (.one (.own nx)))) [(nx, some (.row e t [] []))]
      | _, _, _, _ => none
    | _, _ => none
  | _ => none
theorem zeroD_ok {e : TypeId} {t : Ty} {x : Den E.S t} (h : zeroD P E e t = some x) : ∃ zs, zeroOf P e = some zs ∧ RD E z (E.flat t) (E.fl t x) zs := by
  unfold zeroD at h
  split at h
  · rename_i zc hz
    split at h
    · rename_i hd hh
      obtain rfl := Option.some.inj h
      obtain ⟨zs, h1, h2⟩ := zeroC_ok (P := P) (z := z) (g := fun _ => none) hz
      refine ⟨zs, h1, ?_⟩
      rw [E.fl_ufl]
      have key : ∀ {ts : List Ty} {cs : List (SC E)} {hl : HL E.S ts} {vs : List Value}, dataL E (fun _ => none) ts cs = some hl → All2 (RC P E z (fun _ => none)) cs vs → RD E z ts hl vs := by
        intro ts cs hl vs hd hc
        have hHR : HR P E [] z.F z.w z.w ⟨fun _ => False, z.w⟩ (fun _ => none) (fun _ => none) :=
          ⟨Chg.of_below (Below.refl _ _), (fun _ _ h => by cases h), (fun _ _ _ h => by cases h), (fun _ _ _ _ _ _ h => by cases h), (fun _ h => h.elim), (fun _ h => h.elim), (fun _ _ _ h => by cases h)⟩
        induction cs generalizing ts vs with
        | nil => cases ts with
          | nil => cases hc; exact .nil
          | cons t ts => simp [dataL] at hd
        | cons c cs ih => cases ts with
          | nil => simp [dataL] at hd
          | cons t ts =>
            cases hc with
            | cons h1 h2 =>
              simp only [dataL] at hd
              split at hd
              · cases hd
              · rename_i y hy
                split at hd
                · rename_i h' hh'
                  obtain rfl := Option.some.inj hd
                  refine RD.cons ?_ (ih hh' h2)
                  unfold SC.data at hy
                  split at hy
                  · split at hy
                    · rename_i ht
                      subst ht
                      obtain rfl := Option.some.inj hy
                      exact h1
                    · cases hy
                  · split at hy
                    · obtain rfl := Option.some.inj hy
                      simp only [RC] at h1
                      subst h1
                      exact RD.sl (xs := []) (cap := 0) (SlF.nil _ _ _ _) (Nat.le_refl _) (rows := []) (fun i x r h => by simp at h) .nil
                    · cases hy
                  · cases hy
                  · cases hy
                · cases hd
      exact key hh h2
    · cases h
  · cases h
theorem same_int {x y : Operand} {ky : IntKind} {n : Int} (hs : Operand.same x y = true) (hy : ρ y = .int ky n) (hρc : ∀ v, ρ (.const v) = v) : ∃ kx, ρ x = .int kx n := by
  unfold Operand.same at hs
  split at hs
  · obtain rfl := Nat.eq_of_beq_eq_true hs
    exact ⟨ky, hy⟩
  · rename_i ka a kb b
    simp only [decide_eq_true_eq] at hs
    subst hs
    rw [hρc] at hy
    injection hy with h1 h2
    exact ⟨ka, by rw [hρc, h2]⟩
  · cases hs
theorem lMake_ok {T : TypeId} {x y : Operand} (ho : o.op = .makeSlice T x y) (hρc : ∀ v, ρ (.const v) = v) (hnx : Fresh g nx) (hρ : OpR P E z g L ρ) (hH : HR P E Bs F0 w0 w z g H) (h : lMake P E L nx T x y k = some r) : Turns P E Bs F0 w0 w z g nx H ρ o true k r := by
  unfold lMake at h
  split at h
  · rename_i e hu
    split at h
    · rename_i t ky n ht hy
      have hyv := SV.int_ok rfl (hρ y _ hy)
      split at h
      · rename_i zv hz hel hsame
        obtain ⟨xs, hxs, h⟩ := bind_some h
        have hEl := elemOK hu hel
        obtain ⟨zs, hzo, hzr⟩ := zeroD_ok (z := z) hz
        obtain ⟨kx, hxv⟩ := same_int hsame hyv hρc
        obtain ⟨A', w', hrun, hS', hext⟩ := run_makeSlice_full (P := P) ho hEl hzo hxv hyv (Sep.start [] w) hxs
        obtain ⟨h0, h1, h2, rfl⟩ := makeI_some hxs
        obtain ⟨hown', hlen', _⟩ := hS'.hold _ (List.mem_cons_self ..)
        have hfp := hS'.own _ (List.mem_cons_self ..) trivial
        have hrows : Rows E z t (List.replicate n.toNat zv) (List.replicate n.toNat zs) := fun i x r hx hr => by
          rw [List.getElem?_replicate] at hx hr
          split at hx
          · rename_i hc
            rw [if_pos hc] at hr
            obtain rfl := Option.some.inj hx
            obtain rfl := Option.some.inj hr
            exact hzr
          · cases hx
        exact ⟨_, _, z, _, w', _, h, ⟨hrun, ⟨_, rfl, _, Ga.put_self _ _ _, rfl⟩, Fz.Le.refl z, Ga.le_put hnx.self, hnx.put _, hH.row_new hnx hext (by simp) hown' hlen' hrows (fun q ⟨a, ha, hq⟩ => (hfp q ⟨a, ha, hq⟩).resolve_right (by simp)), fun _ => hext⟩⟩
      · rename_i zv hz hel hsame hzero
        obtain ⟨xs, hxs, h⟩ := bind_some h
        have hEl := elemOK hu hel
        have hxv : ∃ kx, ρ x = .int kx 0 := by
          unfold Operand.zero at hzero
          split at hzero
          · rename_i ka a
            simp only [decide_eq_true_eq] at hzero
            subst hzero
            exact ⟨ka, hρc _⟩
          · cases hzero
        obtain ⟨kx, hxv⟩ := hxv
        obtain ⟨A', w', hrun, hS', hext⟩ := run_makeSlice_cap (P := P) ho hEl hxv hyv (Sep.start [] w) hxs
        obtain ⟨hown', hlen', _⟩ := hS'.hold _ (List.mem_cons_self ..)
        have hfp := hS'.own _ (List.mem_cons_self ..) trivial
        exact ⟨_, _, z, _, w', _, h, ⟨hrun, ⟨_, rfl, _, Ga.put_self _ _ _, rfl⟩, Fz.Le.refl z, Ga.le_put hnx.self, hnx.put _, hH.row_new hnx hext rfl hown' hlen' (fun i x r h => by simp at h) (fun q ⟨a, ha, hq⟩ => (hfp q ⟨a, ha, hq⟩).resolve_right (by simp)), fun _ => hext⟩⟩
      · cases h
    · cases h
  · cases h
end
end Rt
end Go
