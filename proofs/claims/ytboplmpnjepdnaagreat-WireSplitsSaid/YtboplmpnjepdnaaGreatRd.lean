/-
  The second engine, fourth text: more quiet operations: addresses, strings, slices, structs. No program in sight.
-/
import Derived.Test.YtboplmpnjepdnaaGreatRc
namespace Go
namespace Rt
open Go.RowKit

noncomputable section
variable {P : Program} {E : TE} {z : Fz} {g : Ga} {nx : Nat}
variable {L : Nat → Option (SV E)} {H : Nat → Option (Obj E)} {ρ : Operand → Value} {W w0 : World} {I : World → Prop} {o : Oper} {R : Type} {k : SV E → Up E → Option R} {r : R} {Bs : List Nat} {F0 : Nat → Prop}
theorem Good.mk' {s : SV E} {v : Value} (hk : k s none = some r) (hv : RV P E z g s v) (hr : ∀ w', I w' → (execOp ρ o).run P w' = .ok (.value v) w') : Good P E z g nx I H ρ o k r :=
  ⟨s, v, none, g, hk, Ga.Le.refl g, fun _ _ => rfl, hv, hr, rfl⟩
/-! ### Addresses -/
def fieldOff (P : Program) (T : TypeId) (f : Nat) : Option Nat :=
  match P.underlying T with
  | some (.struct fs) => match fs[f]? with
    | some q => match sizeV P q.type with
      | some (_ + 1) => some q.offset
      | _ => none
    | none => none
  | _ => none
theorem fieldAt_run {T : TypeId} {f n b off : Nat} (h : fieldOff P T f = some n) (w : World) : (Instr.fieldAt T (.pointer (some ⟨b, off, none⟩)) f).run P w = .ok (.pointer (some ⟨b, off + n, none⟩)) w := by
  unfold fieldOff at h
  split at h
  · rename_i fs hu
    split at h
    · rename_i q hq
      split at h
      · rename_i m hm
        obtain rfl := Option.some.inj h
        unfold sizeV at hm
        cases hi : P.info? q.type with
        | none => simp [hi] at hm
        | some i =>
          have hs : i.size = m + 1 := by simpa [hi] using hm
          simp [Instr.fieldAt, run_underlying hu, hq, Instr.sureAddr, fieldPlace, sizeOf, typeInfo, hi, hs, Addr.add_mk]
      · cases h
    · cases h
  · cases h
def SC.shift (n : Nat) : SC E → Option (SC E)
  | .ptr id off => some (.ptr id (off + n))
  | .elo id q i off => some (.elo id q i (off + n))
  | .elf t x off => some (.elf t x (off + n))
  | _ => none
theorem SC.shift_ok {n : Nat} {c c' : SC E} {v : Value} (h : c.shift n = some c') (hr : RC P E z g c v) : ∃ b off, v = .pointer (some ⟨b, off, none⟩) ∧ RC P E z g c' (.pointer (some ⟨b, off + n, none⟩)) := by
  unfold SC.shift at h
  split at h
  · obtain rfl := Option.some.inj h
    obtain ⟨l, h1, rfl⟩ := hr
    exact ⟨_, _, rfl, l, h1, rfl⟩
  · obtain rfl := Option.some.inj h
    obtain ⟨l, h1, h2, rfl⟩ := hr
    exact ⟨_, _, rfl, l, h1, h2, by rw [Nat.add_assoc]⟩
  · obtain rfl := Option.some.inj h
    obtain ⟨b, q, rr, rfl, h2⟩ := hr
    exact ⟨_, _, rfl, b, q, rr, by rw [Nat.add_assoc], h2⟩
  · cases h
def qFieldAddr (P : Program) (E : TE) (L : Nat → Option (SV E)) (T : TypeId) (x : Operand) (f : Nat) {R : Type} (k : SV E → Up E → Option R) : Option R :=
  match opS E L x, fieldOff P T f with
  | some (.v (.one c)), some n => match c.shift n with
    | some c' => k (.v (.one c')) none
    | none => none
  | _, _ => none
theorem qFieldAddr_ok {x : Operand} {T : TypeId} {f : Nat} (ho : o.op = .fieldAddr T x f) (hρ : OpR P E z g L ρ) (h : qFieldAddr P E L T x f k = some r) : Good P E z g nx I H ρ o k r := by
  unfold qFieldAddr at h
  split at h
  · rename_i c n hs hn
    split at h
    · rename_i c' hc
      obtain ⟨b, off, hv, hr⟩ := SC.shift_ok hc (hρ x _ hs)
      refine .mk' h (v := .pointer (some ⟨b, off + n, none⟩)) hr fun w' _ => ?_
      unfold execOp
      rw [ho]
      simp only [hv]
      rw [Sem.run_bind, fieldAt_run hn]
      rfl
    · cases h
  · cases h
/-! ### Strings -/
def qStr (op : BinOp) (a b : Str) {R : Type} (k : SV E → Up E → Option R) : Option R :=
  match op with
  | .add => Option.bind (cat a b) fun s => k (.v (.one (.dt .str s))) none
  | .eql => k (.v (.one (.dt .bool (a == b)))) none
  | .neq => k (.v (.one (.dt .bool (!(a == b))))) none
  | .lss => k (.v (.one (.dt .bool (Op.bytesLess a b)))) none
  | .gtr => k (.v (.one (.dt .bool (!(Op.bytesLess a b || a == b))))) none
  | .leq => k (.v (.one (.dt .bool (Op.bytesLess a b || a == b)))) none
  | .geq => k (.v (.one (.dt .bool (!(Op.bytesLess a b))))) none
  | _ => none
theorem run_str_leq {t yt : TypeId} {x y : Operand} {w : World} (ho : o.op = .binOp .leq t x y yt) {a b : Str} (hx : ρ x = S a) (hy : ρ y = S b) :
    (execOp ρ o).run P w = .ok (.value (.bool (Op.bytesLess a b || a == b))) w := by
  unfold execOp
  simp only [ho, hx, hy, S]
  simp only [eqGuard, binOp, Op.stringOp, ByteArray.toList_mk]
  rfl
theorem run_str_geq {t yt : TypeId} {x y : Operand} {w : World} (ho : o.op = .binOp .geq t x y yt) {a b : Str} (hx : ρ x = S a) (hy : ρ y = S b) :
    (execOp ρ o).run P w = .ok (.value (.bool (!(Op.bytesLess a b)))) w := by
  unfold execOp
  simp only [ho, hx, hy, S]
  simp only [eqGuard, binOp, Op.stringOp, ByteArray.toList_mk]
  rfl
theorem qStr_ok {op : BinOp} {t yt : TypeId} {x y : Operand} {a b : Str} (ho : o.op = .binOp op t x y yt) (hx : ρ x = S a) (hy : ρ y = S b) (h : qStr op a b k = some r) : Good P E z g nx I H ρ o k r := by
  unfold qStr at h
  split at h
  · obtain ⟨s, hs, h⟩ := bind_some h
    exact .mk' h (v := S s) (.str .nil) fun w' _ => run_cat ho hx hy hs
  · exact .mk' h (.bool .nil) fun w' _ => run_str_eql ho hx hy
  · exact .mk' h (.bool .nil) fun w' _ => run_str_neq ho hx hy
  · exact .mk' h (.bool .nil) fun w' _ => run_str_lss ho hx hy
  · exact .mk' h (.bool .nil) fun w' _ => run_str_gtr ho hx hy
  · exact .mk' h (.bool .nil) fun w' _ => run_str_leq ho hx hy
  · exact .mk' h (.bool .nil) fun w' _ => run_str_geq ho hx hy
  · cases h
/-! ### Numbers that may not be there -/
def Operand.isC : Operand → Bool
  | .const _ => true
  | _ => false
def qInt (P : Program) (E : TE) (L : Nat → Option (SV E)) (o : Oper) (op : BinOp) (y : Operand) (ka : IntKind) (a : Int) (kb : IntKind) (b : Int) {R : Type} (k : SV E → Up E → Option R) : Option R :=
  match op, Operand.isC y, decide (ka = kb) with
  | .quo, false, true => Option.bind (quoI ka a b) fun n => k (.v (.one (.dt (.int ka) n))) none
  | .rem, false, true => Option.bind (remI a b) fun n => k (.v (.one (.dt (.int ka) n))) none
  | .shl, false, _ => Option.bind (shlI ka a b) fun n => k (.v (.one (.dt (.int ka) n))) none
  | .shr, false, _ => Option.bind (shrI ka a b) fun n => k (.v (.one (.dt (.int ka) n))) none
  | _, _, _ => qPure P E L o k
theorem qInt_ok {op : BinOp} {t yt : TypeId} {x y : Operand} {ka kb : IntKind} {a b : Int} (ho : o.op = .binOp op t x y yt) (hρ : OpR P E z g L ρ) (hx : ρ x = .int ka a) (hy : ρ y = .int kb b) (h : qInt P E L o op y ka a kb b k = some r) : Good P E z g nx I H ρ o k r := by
  unfold qInt at h
  split at h
  · rename_i hk
    simp only [decide_eq_true_eq] at hk
    subst hk
    obtain ⟨n, hn, h⟩ := bind_some h
    exact .mk' h (v := .int ka n) (.int .nil) fun w' _ => run_quo ho hx hy hn
  · rename_i hk
    simp only [decide_eq_true_eq] at hk
    subst hk
    obtain ⟨n, hn, h⟩ := bind_some h
    exact .mk' h (v := .int ka n) (.int .nil) fun w' _ => run_rem ho hx hy hn
  · obtain ⟨n, hn, h⟩ := bind_some h
    exact .mk' h (v := .int ka n) (.int .nil) fun w' _ => run_shl ho hx hy hn
  · obtain ⟨n, hn, h⟩ := bind_some h
    exact .mk' h (v := .int ka n) (.int .nil) fun w' _ => run_shr ho hx hy hn
  · exact qPure_ok hρ h
/-! ### Structs, compared -/
/-- Data off a cell; rows of the call's own count only where they are frozen. -/
def SC.data (H : Nat → Option (Obj E)) (t : Ty) : SC E → Option (Den E.S t)
  | .dt t' x => if h : t' = t then some (h ▸ x) else none
  | .nils => match t with
    | .sl _ => some []
    | _ => none
  | .own id => match H id with
    | some (.fr e xs) => if h : Ty.sl e = t then some (h ▸ xs) else none
    | _ => none
  | _ => none
theorem SC.data_ok {t : Ty} {c : SC E} {x : Den E.S t} {v : Value} {w : World} (hH : HR P E Bs F0 w0 w z g H) (h : c.data H t = some x) (hr : RC P E z g c v) : RD E z [t] (x, ()) [v] := by
  unfold SC.data at h
  split at h
  · split at h
    · rename_i ht
      subst ht
      obtain rfl := Option.some.inj h
      exact hr
    · cases h
  · split at h
    · obtain rfl := Option.some.inj h
      simp only [RC] at hr
      subst hr
      exact RD.sl (xs := []) (cap := 0) (SlF.nil _ _ _ _) (Nat.le_refl _) (rows := []) (fun i x r h => by simp at h) .nil
    · cases h
  · split at h
    · rename_i e xs hi
      split at h
      · rename_i ht
        subst ht
        obtain rfl := Option.some.inj h
        obtain ⟨l, h1, rfl⟩ := hr
        obtain ⟨l', rows, h2, hn, hc, hs, hcap, hrows⟩ := hH.hold _ _ hi
        rw [h1] at h2; obtain rfl := Option.some.inj h2
        rw [hn]
        rw [hn] at hcap hs
        rw [hc] at hs
        exact RD.sl hs hcap hrows .nil
      · cases h
    · cases h
  · cases h
/-- Data off cells. -/
def dataL (E : TE) (H : Nat → Option (Obj E)) : (ts : List Ty) → List (SC E) → Option (HL E.S ts)
  | [], [] => some ()
  | t :: ts, c :: cs => match c.data H t with
    | none => none
    | some x => match dataL E H ts cs with
      | some h => some (x, h)
      | none => none
  | _, _ => none
theorem dataL_ok {w : World} (hH : HR P E Bs F0 w0 w z g H) : ∀ {ts : List Ty} {cs : List (SC E)} {h : HL E.S ts} {vs : List Value}, dataL E H ts cs = some h → All2 (RC P E z g) cs vs → RD E z ts h vs
  | [], [], h, vs, he, hr => by cases hr; exact .nil
  | t :: ts, c :: cs, h, vs, he, hr => by
    cases hr with
    | cons h1 h2 =>
      simp only [dataL] at he
      split at he
      · cases he
      · rename_i x hx
        split at he
        · rename_i h' hh
          obtain rfl := Option.some.inj he
          exact RD.cons (SC.data_ok hH hx h1) (dataL_ok hH hh h2)
        · cases he
  | [], c :: cs, h, vs, he, hr => by simp [dataL] at he
  | t :: ts, [], h, vs, he, hr => by simp [dataL] at he
/-- How structs of a type compare. -/
def EqFact (P : Program) (E : TE) (T n : Nat) : Prop := ∀ (d : DecidableEq (E.S n)) (x y : E.S n) (l m : List Value), encH E (E.cs n) (E.un n x) = some l → encH E (E.cs n) (E.un n y) = some m → EqIs P T (.agg l.toArray) (.agg m.toArray) (@decide (x = y) (d x y))
def qEq (E : TE) (H : Nat → Option (Obj E)) (eqs : List (Nat × Nat)) (neg : Bool) (T : TypeId) (l m : List (SC E)) {R : Type} (k : SV E → Up E → Option R) : Option R :=
  match eqs.find? fun p => Nat.beq p.1 T with
  | some p => match dataL E H (E.cs p.2) l, dataL E H (E.cs p.2) m, E.deq p.2 with
    | some h, some h', some d => match encH E (E.cs p.2) h, encH E (E.cs p.2) h' with
      | some _, some _ => match neg with
        | false => k (.v (.one (.dt .bool (@decide (E.bd p.2 h = E.bd p.2 h') (d _ _))))) none
        | true => k (.v (.one (.dt .bool (!(@decide (E.bd p.2 h = E.bd p.2 h') (d _ _)))))) none
      | _, _ => none
    | _, _, _ => none
  | none => none
theorem qEq_ok {eqs : List (Nat × Nat)} {op : BinOp} {neg : Bool} {t yt : TypeId} {x y : Operand} {l m : List (SC E)} (hop : op = bif neg then .neq else .eql) (ho : o.op = .binOp op t x y yt) (heq : ∀ p ∈ eqs, EqFact P E p.1 p.2) (hH : HR P E Bs F0 w0 W z g H)
    (hx : RV P E z g (.v (.agg l)) (ρ x)) (hy : RV P E z g (.v (.agg m)) (ρ y)) (h : qEq E H eqs neg t l m k = some r) : Good P E z g nx I H ρ o k r := by
  unfold qEq at h
  split at h
  · rename_i p hp
    have hT : p.1 = t := Nat.eq_of_beq_eq_true (by simpa using List.find?_some hp)
    have hf := heq p (List.mem_of_find?_eq_some hp)
    split at h
    · rename_i hl hm d h1 h2 h3
      split at h
      · rename_i e1 e2 h4 h5
        obtain ⟨vs, ex, hvx⟩ := hx
        obtain ⟨us, ey, hvy⟩ := hy
        have hrx := dataL_ok hH h1 hvx
        have hry := dataL_ok hH h2 hvy
        obtain rfl := encH_ok hrx h4
        obtain rfl := encH_ok hry h5
        have hE := hf d (E.bd p.2 hl) (E.bd p.2 hm) vs us (by rw [E.un_bd]; exact h4) (by rw [E.un_bd]; exact h5)
        rw [hT] at hE
        cases neg with
        | false =>
          simp only at h
          subst hop
          exact .mk' h (.bool .nil) fun w' _ => run_agg_eql ho ex ey hE
        | true =>
          simp only at h
          subst hop
          exact .mk' h (.bool .nil) fun w' _ => run_agg_neq ho ex ey hE
      · cases h
    · cases h
  · cases h
/-! ### Is a slice nil? What data say leaves it open at no element. -/
def both {R : Type} (x y : Option R) : Option R := @ite _ (x = y) (Classical.propDecidable _) x none
theorem both_some {R : Type} {x y : Option R} {r : R} (h : both x y = some r) : x = some r ∧ y = some r := by
  unfold both at h
  split at h
  · rename_i e; subst e; exact ⟨h, h⟩
  · cases h
theorem both_self {R : Type} (x : Option R) : both x x = x := by
  unfold both
  rw [if_pos rfl]
def nilB {α R : Type} (xs : List α) (k : Bool → Option R) : Option R := match xs with
  | [] => both (k true) (k false)
  | _ :: _ => k false
theorem nilB_some {α R : Type} {xs : List α} {k : Bool → Option R} {r : R} (h : nilB xs k = some r) {b : Bool} (hb : xs ≠ [] → b = false) : k b = some r := by
  cases xs with
  | nil =>
    obtain ⟨h1, h2⟩ := both_some h
    cases b with
    | true => exact h1
    | false => exact h2
  | cons x xs => rw [hb (by simp)]; exact h
theorem run_equalIn_snil (w : World) (d : Nat) (t e : TypeId) (a : Option Addr) (l c : Nat) (h : P.underlying t = some (.slice e)) : (Op.equalIn (d + 1) t (.slice a l c) (.slice none 0 0)).run P w = .ok a.isNone w := by
  cases a <;> simp [Op.equalIn, run_underlying h]
theorem run_equal_snil (w : World) (t e : TypeId) (a : Option Addr) (l c : Nat) (h : P.underlying t = some (.slice e)) : (Op.equal t (.slice a l c) (.slice none 0 0)).run P w = .ok a.isNone w := run_equalIn_snil w 9999 t e a l c h
theorem run_eql_snil (w : World) (t e : TypeId) (a : Option Addr) (l c : Nat) (h : P.underlying t = some (.slice e)) : (binOp .eql t (.slice a l c) (.slice none 0 0)).run P w = .ok (.bool a.isNone) w := by
  simp only [binOp]
  simp [run_equal_snil w t e a l c h]
theorem run_neq_snil (w : World) (t e : TypeId) (a : Option Addr) (l c : Nat) (h : P.underlying t = some (.slice e)) : (binOp .neq t (.slice a l c) (.slice none 0 0)).run P w = .ok (.bool (!a.isNone)) w := by
  simp only [binOp]
  simp [run_equal_snil w t e a l c h]
theorem run_slice_eql {t yt e : TypeId} {x y : Operand} {A : Option Addr} {n cap : Nat} {w : World} (ho : o.op = .binOp .eql t x y yt) (ht : P.underlying t = some (.slice e)) (hx : ρ x = .slice A n cap) (hy : ρ y = .slice none 0 0) :
    (execOp ρ o).run P w = .ok (.value (.bool A.isNone)) w := by
  unfold execOp
  simp only [ho, hx, hy]
  simp [eqGuard, run_eql_snil w t e A n cap ht]
theorem run_slice_neq {t yt e : TypeId} {x y : Operand} {A : Option Addr} {n cap : Nat} {w : World} (ho : o.op = .binOp .neq t x y yt) (ht : P.underlying t = some (.slice e)) (hx : ρ x = .slice A n cap) (hy : ρ y = .slice none 0 0) :
    (execOp ρ o).run P w = .ok (.value (.bool (!A.isNone))) w := by
  unfold execOp
  simp only [ho, hx, hy]
  simp [eqGuard, run_neq_snil w t e A n cap ht]
def qNil0 (P : Program) (E : TE) (H : Nat → Option (Obj E)) (op : BinOp) (T : TypeId) (c : SC E) {R : Type} (k : SV E → Up E → Option R) : Option R :=
  match op, P.underlying T, c with
  | .eql, some (.slice _), .dt (.sl _) xs => nilB xs fun b => k (.v (.one (.dt .bool b))) none
  | .neq, some (.slice _), .dt (.sl _) xs => nilB xs fun b => k (.v (.one (.dt .bool (!b)))) none
  | .eql, some (.slice _), .nils => k (.v (.one (.dt .bool true))) none
  | .neq, some (.slice _), .nils => k (.v (.one (.dt .bool false))) none
  | .eql, some (.slice _), .own id => match H id with
    | some (.row _ _ xs _) => nilB xs fun b => k (.v (.one (.dt .bool b))) none
    | some (.fr _ xs) => nilB xs fun b => k (.v (.one (.dt .bool b))) none
    | _ => none
  | .neq, some (.slice _), .own id => match H id with
    | some (.row _ _ xs _) => nilB xs fun b => k (.v (.one (.dt .bool (!b)))) none
    | some (.fr _ xs) => nilB xs fun b => k (.v (.one (.dt .bool (!b)))) none
    | _ => none
  | _, _, _ => none
theorem own_nil {H : Nat → Option (Obj E)} (hH : HR P E Bs F0 w0 W z g H) {id : Nat} {v : Value} (hr : RC P E z g (.own id) v) : (∀ e t xs foc, H id = some (.row e t xs foc) → ∃ A n cap, v = .slice A n cap ∧ (xs ≠ [] → A.isNone = false)) ∧ ∀ t xs, H id = some (.fr t xs) → ∃ A n cap, v = .slice A n cap ∧ (xs ≠ [] → A.isNone = false) := by
  obtain ⟨l, h1, rfl⟩ := hr
  refine ⟨fun e t xs foc hi => ⟨_, _, _, rfl, fun hx => ?_⟩, fun t xs hi => ⟨_, _, _, rfl, fun hx => ?_⟩⟩
  · obtain ⟨l', rows, h2, hn, _, hown, _⟩ := hH.hold _ _ hi
    rw [h1] at h2; obtain rfl := Option.some.inj h2
    rcases hown.2 with ⟨_, h3⟩ | ⟨b, cap, cur, h3, _⟩
    · rw [hn] at h3; exact absurd (List.length_eq_zero_iff.1 h3) hx
    · injection h3 with h4; rw [h4]; rfl
  · obtain ⟨l', rows, h2, hn, _, hs, _⟩ := hH.hold _ _ hi
    rw [h1] at h2; obtain rfl := Option.some.inj h2
    have : 0 < l.n := by rw [hn]; exact List.length_pos_iff.2 hx
    obtain ⟨b, off, e, h3, _⟩ := hs.2 this
    rw [e]; rfl
theorem qNil0_ok {op : BinOp} {t yt : TypeId} {x y : Operand} {c : SC E} (ho : o.op = .binOp op t x y yt) (hH : HR P E Bs F0 w0 W z g H) (hx : RC P E z g c (ρ x)) (hy : ρ y = .slice none 0 0) (h : qNil0 P E H op t c k = some r) : Good P E z g nx I H ρ o k r := by
  unfold qNil0 at h
  split at h
  · rename_i e xs hu
    obtain ⟨A, cap, rows, vs', ev, hs, _⟩ := RD.sl_inv hx
    injection ev with ev _
    refine .mk' (nilB_some h (b := A.isNone) fun hne => ?_) (.bool .nil) fun w' _ => run_slice_eql ho hu ev hy
    obtain ⟨b, off, h3, _⟩ := hs.2 (List.length_pos_iff.2 hne)
    rw [h3]; rfl
  · rename_i e xs hu
    obtain ⟨A, cap, rows, vs', ev, hs, _⟩ := RD.sl_inv hx
    injection ev with ev _
    refine .mk' (nilB_some h (b := A.isNone) fun hne => ?_) (.bool .nil) fun w' _ => run_slice_neq ho hu ev hy
    obtain ⟨b, off, h3, _⟩ := hs.2 (List.length_pos_iff.2 hne)
    rw [h3]; rfl
  · rename_i hu
    exact .mk' h (.bool .nil) fun w' _ => run_slice_eql ho hu hx hy
  · rename_i hu
    exact .mk' h (.bool .nil) fun w' _ => run_slice_neq ho hu hx hy
  · rename_i id hu
    obtain ⟨h1, h2⟩ := own_nil hH hx
    split at h
    · rename_i hi
      obtain ⟨A, n, cap, ev, hA⟩ := h1 _ _ _ _ hi
      exact .mk' (nilB_some h hA) (.bool .nil) fun w' _ => run_slice_eql ho hu ev hy
    · rename_i hi
      obtain ⟨A, n, cap, ev, hA⟩ := h2 _ _ hi
      exact .mk' (nilB_some h hA) (.bool .nil) fun w' _ => run_slice_eql ho hu ev hy
    · cases h
  · rename_i id hu
    obtain ⟨h1, h2⟩ := own_nil hH hx
    split at h
    · rename_i hi
      obtain ⟨A, n, cap, ev, hA⟩ := h1 _ _ _ _ hi
      exact .mk' (nilB_some h hA) (.bool .nil) fun w' _ => run_slice_neq ho hu ev hy
    · rename_i hi
      obtain ⟨A, n, cap, ev, hA⟩ := h2 _ _ hi
      exact .mk' (nilB_some h hA) (.bool .nil) fun w' _ => run_slice_neq ho hu ev hy
    · cases h
  · cases h
/-! ### Every binary operation -/
def qBin (P : Program) (E : TE) (L : Nat → Option (SV E)) (H : Nat → Option (Obj E)) (eqs : List (Nat × Nat)) (o : Oper) (op : BinOp) (T : TypeId) (x y : Operand) {R : Type} (k : SV E → Up E → Option R) : Option R :=
  match opS E L x, opS E L y with
  | some (.v (.one (.dt (.int ka) a))), some (.v (.one (.dt (.int kb) b))) => qInt P E L o op y ka a kb b k
  | some (.v (.one (.dt .str a))), some (.v (.one (.dt .str b))) => qStr op a b k
  | some (.v (.one (.dt .bool a))), some (.v (.one (.dt .bool b))) => match op, P.underlying T with
    | .eql, some .bool => k (.v (.one (.dt .bool (a == b)))) none
    | .neq, some .bool => k (.v (.one (.dt .bool (!(a == b))))) none
    | _, _ => none
  | some (.v (.agg l)), some (.v (.agg m)) => match op with
    | .eql => qEq E H eqs false T l m k
    | .neq => qEq E H eqs true T l m k
    | _ => none
  | some (.v (.one c)), some (.v (.one .nils)) => qNil0 P E H op T c k
  | _, _ => none
theorem qBin_ok {eqs : List (Nat × Nat)} {op : BinOp} {t yt : TypeId} {x y : Operand} (ho : o.op = .binOp op t x y yt) (heq : ∀ p ∈ eqs, EqFact P E p.1 p.2) (hρ : OpR P E z g L ρ) (hH : HR P E Bs F0 w0 W z g H) (h : qBin P E L H eqs o op t x y k = some r) : Good P E z g nx I H ρ o k r := by
  unfold qBin at h
  split at h
  · rename_i ka a kb b hx hy
    exact qInt_ok ho hρ (SV.int_ok rfl (hρ x _ hx)) (SV.int_ok rfl (hρ y _ hy)) h
  · rename_i a b hx hy
    exact qStr_ok ho (SV.str_ok rfl (hρ x _ hx)) (SV.str_ok rfl (hρ y _ hy)) h
  · rename_i a b hx hy
    have e1 := SV.bool_ok rfl (hρ x _ hx)
    have e2 := SV.bool_ok rfl (hρ y _ hy)
    split at h
    · rename_i hu
      exact .mk' h (.bool .nil) fun w' _ => run_bool_eql ho hu e1 e2
    · rename_i hu
      exact .mk' h (.bool .nil) fun w' _ => run_bool_neq ho hu e1 e2
    · cases h
  · rename_i l m hx hy
    split at h
    · exact qEq_ok (neg := false) rfl ho heq hH (hρ x _ hx) (hρ y _ hy) h
    · exact qEq_ok (neg := true) rfl ho heq hH (hρ x _ hx) (hρ y _ hy) h
    · cases h
  · rename_i c hx hy
    exact qNil0_ok ho hH (hρ x _ hx) (hρ y _ hy) h
  · cases h
def qIndex (P : Program) (E : TE) (L : Nat → Option (SV E)) (T : TypeId) (x i : Operand) {R : Type} (k : SV E → Up E → Option R) : Option R :=
  match opS E L x, opS E L i, P.underlying T with
  | some (.v (.one (.dt .str s))), some (.v (.one (.dt (.int _) n))), some .string => Option.bind (byteI s n) fun b => k (.v (.one (.dt (.int .u8) b))) none
  | _, _, _ => none
theorem qIndex_ok {T : TypeId} {x i : Operand} (ho : o.op = .index T x i) (hρ : OpR P E z g L ρ) (h : qIndex P E L T x i k = some r) : Good P E z g nx I H ρ o k r := by
  unfold qIndex at h
  split at h
  · rename_i s ki n hx hi hu
    obtain ⟨b, hb, h⟩ := bind_some h
    exact .mk' h (v := .int .u8 b) (.int .nil) fun w' _ => run_byteI ho hu (SV.str_ok rfl (hρ x _ hx)) (SV.int_ok rfl (hρ i _ hi)) hb
  · cases h
end
end Rt
end Go
