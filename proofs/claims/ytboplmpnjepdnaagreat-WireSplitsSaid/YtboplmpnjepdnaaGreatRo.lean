/-
  The second engine, fifteenth text: every operation. No program in sight.
-/
import Derived.Test.YtboplmpnjepdnaaGreatRn
namespace Go
namespace Rt
open Go.RowKit

section
variable {P : Program} {E : TE} {z z' : Fz} {g g' : Ga} {nx : Nat} {w w' w0 : World} {H H' : Nat → Option (Obj E)} {L : Nat → Option (SV E)} {ρ : Operand → Value} {o : Oper} {Bs : List Nat} {F0 : Nat → Prop} {R : Type} {r : R}
/-! ### Arguments -/
def argsL (E : TE) (L : Nat → Option (SV E)) : List Operand → Option (List (V1 E))
  | [] => some []
  | x :: l => match opS E L x, argsL E L l with
    | some (.v v), some vs => some (v :: vs)
    | _, _ => none
theorem argsL_ok (hρ : OpR P E z g L ρ) : ∀ {l : List Operand} {xs : List (V1 E)}, argsL E L l = some xs → All2 (R1 P E z g) xs (l.map ρ)
  | [], xs, h => by simp only [argsL, Option.some.injEq] at h; subst h; exact .nil
  | x :: l, xs, h => by
    simp only [argsL] at h
    split at h
    · rename_i v vs hv hvs
      obtain rfl := Option.some.inj h
      exact .cons (hρ x _ hv) (argsL_ok hρ hvs)
    · cases h
theorem call_enter {f : FuncId} {args : Array Operand} {ats : Array TypeId} (ho : o.op = .call { callee := .value (.func f), args := args, argTypes := ats }) (hf : ρ (.func f) = .func (.func f) #[] #[]) (hb : bodyB P f = true) (w : World) :
    (execOp ρ o).run P w = .ok (.enter f (args.toList.map ρ).toArray) w := by
  unfold execOp
  rw [ho]
  simp only [resolve, hf, Deferred.ofValue, Sem.run_bind, Sem.run_pure, Result.andThen_ok, invoke]
  have e : (#[] ++ args.map ρ ++ #[] : Array Value) = (args.toList.map ρ).toArray := by
    rw [← List.map_toArray]
    simp
  rw [e]
  exact callFunc_run hb
theorem call_enterV {x : Operand} {f : FuncId} {caps : Array Value} {args : Array Operand} {ats : Array TypeId} (ho : o.op = .call { callee := .value x, args := args, argTypes := ats }) (hf : ρ x = .func (.func f) #[] caps) (hb : bodyB P f = true) (w : World) :
    (execOp ρ o).run P w = .ok (.enter f ((args.toList.map ρ).toArray ++ caps)) w := by
  unfold execOp
  rw [ho]
  simp only [resolve, hf, Deferred.ofValue, Sem.run_bind, Sem.run_pure, Result.andThen_ok, invoke]
  have e : (#[] ++ args.map ρ ++ caps : Array Value) = (args.toList.map ρ).toArray ++ caps := by
    rw [← List.map_toArray]
    simp
  rw [e]
  exact callFunc_run hb
/-- Data of an argument, as the value of data. -/
theorem takeD_RT {t : Ty} {x : V1 E} {d : Den E.S t} {v : Value} (hH : HR P E Bs F0 w0 w z g H) (h : takeD E H t x = some d) (hr : R1 P E z g x v) : RT E z t d v := by
  unfold takeD at h
  split at h
  · rename_i hd hf hh
    obtain rfl := Option.some.inj h
    cases x with
    | one c =>
      have := dataL_ok hH hh (.cons hr .nil : All2 (RC P E z g) [c] [v])
      cases t with
      | st n => cases hf
      | int k => exact this
      | bool => exact this
      | str => exact this
      | sl e => exact this
    | agg l =>
      obtain ⟨vs, rfl, hr⟩ := hr
      have := dataL_ok hH hh hr
      cases t with
      | st n =>
        have h2 : RD E z (E.flat (.st n)) (E.fl (.st n) (E.ufl (.st n) hd)) vs := by rw [E.fl_ufl]; exact this
        exact ⟨vs, rfl, h2⟩
      | _ => cases hf
  · cases h
/-- A function value is called. -/
def lCallV (E : TE) (L : Nat → Option (SV E)) (H : Nat → Option (Obj E)) (x : Operand) (args : List Operand) {R : Type} (k : Option (SV E) → Chs E → Option R) : Option R :=
  match opS E L x, argsL E L args with
  | some (.v (.one (.fn1 a r f))), some [u] => match takeD E H a u with
    | some d => Option.bind (f d) fun y => k (some (.v (.one (.dt r y)))) []
    | none => none
  | some (.v (.one (.fn2 a b r f))), some [u, v] => match takeD E H a u, takeD E H b v with
    | some d, some e => Option.bind (f d e) fun y => k (some (.v (.one (.dt r y)))) []
    | _, _ => none
  | _, _ => none
theorem lCallV_ok {x : Operand} {args : List Operand} {k : Option (SV E) → Chs E → Option R} (hρ : OpR P E z g L ρ) (hH : HR P E Bs F0 w0 w z g H) (h : lCallV E L H x args k = some r) :
    ∃ f caps s, ρ x = .func (.func f) #[] caps ∧ bodyB P f = true ∧ k (some s) [] = some r ∧ Ret P f ((args.map ρ).toArray ++ caps) w fun v w' => RV P E z g s v ∧ Ext w w' := by
  unfold lCallV at h
  split at h
  · rename_i a r' f u hx hu
    split at h
    · rename_i d hd
      obtain ⟨y, hy, h⟩ := bind_some h
      obtain ⟨fid, caps, e, ⟨hb, hfl⟩, hc⟩ := hρ x _ hx
      have hargs := argsL_ok hρ hu
      generalize args.map ρ = vs at hargs
      cases hargs with
      | cons h1 h2 =>
        cases h2
        exact ⟨fid, caps, _, e, hb, h, hc w z (d, ()) y _ (Fz.Le.refl z) hH.fz ⟨_, _, rfl, takeD_RT hH hd h1, rfl⟩ hy⟩
    · cases h
  · rename_i a b r' f u v hx hu
    split at h
    · rename_i d e' hd he
      obtain ⟨y, hy, h⟩ := bind_some h
      obtain ⟨fid, caps, e, ⟨hb, hfl⟩, hc⟩ := hρ x _ hx
      have hargs := argsL_ok hρ hu
      generalize args.map ρ = vs at hargs
      cases hargs with
      | cons h1 h2 =>
        cases h2 with
        | cons h2 h3 =>
          cases h3
          exact ⟨fid, caps, _, e, hb, h, hc w z (d, e', ()) y _ (Fz.Le.refl z) hH.fz ⟨_, _, rfl, takeD_RT hH hd h1, _, _, rfl, takeD_RT hH he h2, rfl⟩ hy⟩
    · cases h
  · cases h
/-- The variables that a closure has captured, as arguments. -/
def capsV (E : TE) : List Nat → List (V1 E)
  | [] => []
  | i :: l => .one (.ptr i 0) :: capsV E l
theorem capsV_ok : ∀ {ids : List Nat} {us : List Value}, All2 (fun id u => ∃ l, g id = some l ∧ u = Value.pointer (some ⟨l.b, 0, none⟩)) ids us → All2 (R1 P E z g) (capsV E ids) us
  | [], _, h => by cases h; exact .nil
  | i :: ids, _, h => by
    cases h with
    | cons h1 h2 => exact .cons h1 (capsV_ok h2)
/-! ### Every operation -/
noncomputable def evOp (P : Program) (E : TE) (eqs : List (Nat × Nat)) (tab : Tab E) (L : Nat → Option (SV E)) (H : Nat → Option (Obj E)) (nx : Nat) (o : Oper) {R : Type} (k : Option (SV E) → Chs E → Option R) : Option R :=
  match o.op with
  | .box T x => lBox E L nx T x k
  | .alloc T => lAlloc P E nx T k
  | .store T x y => lStore P E L H T x y k
  | .buildSlice T n ps => lSlice P E L H nx T n ps k
  | .makeSlice T x y => lMake P E L nx T x y k
  | .makeMap T none => lMakeMap P E nx T k
  | .mapUpdate T m x y => lMapUpd P E eqs L H T m x y k
  | .mapEntry T m x => lMapEnt P E eqs L H nx T m x k
  | .entryStore _ m x y => lEntSt E L H m x y k
  | .call { callee := .builtin .append, args := ⟨[x, y]⟩, argTypes := ⟨[T, T']⟩ } => match Nat.beq T T' with
    | true => lApp P E L H nx T x y k
    | false => none
  | .call { callee := .builtin .copy, args := ⟨[x, y]⟩, argTypes := ⟨[T, _]⟩ } => lCopy P E L H T x y k
  | .call { callee := .value (.func f), args := args, argTypes := _ } => match argsL E L args.toList with
    | some xs => lCall E tab H nx f xs k
    | none => none
  | .call { callee := .value (.tmp t), args := args, argTypes := _ } => match L t with
    | some (.v (.one (.clo f ids))) => match argsL E L args.toList with
      | some xs => lCall E tab H nx f (xs ++ capsV E ids) k
      | none => none
    | _ => lCallV E L H (.tmp t) args.toList k
  | _ => qOp P E eqs L H nx o fun s up => k (some s) (match up with | none => [] | some (i, p) => [(i, some p)])
theorem HR.up {i : Nat} {o1 o2 : Obj E} (h : HR P E Bs F0 w0 w z g H) (hg : g.Le g') (hi : H i = some o1) (ho : ∀ z w, ObjR P E z g w i o1 → ObjR P E z g' w i o2) (hf : ∀ k, fpO g' i o2 k ↔ fpO g i o1 k) : HR P E Bs F0 w0 w z g' (upH H [(i, some o2)]) := by
  refine h.turn hg (i := i) (i' := i) (C := fun k => fpO g i o1 k) (fun k hk => ⟨o1, hi, hk⟩) (Grow.refl w) (fun k _ _ => rfl) (ho z w (h.hold i o1 hi)) (fun k hk => .inl ((hf k).1 hk)) fun j p hj => ?_
  rcases upH_one hj with ⟨rfl, rfl⟩ | ⟨h1, h2⟩
  · exact .inl ⟨rfl, rfl⟩
  · exact .inr ⟨h1, .inl h1, h2⟩
/-- Operations that make memory alone. -/
def makesB (tab : Tab E) (L : Nat → Option (SV E)) (o : Oper) : Bool := match o.op with
  | .store .. => false
  | .mapUpdate .. => false
  | .mapEntry .. => false
  | .entryStore .. => false
  | .call { callee := .builtin .append, args := _, argTypes := _ } => false
  | .call { callee := .builtin .copy, args := _, argTypes := _ } => false
  | .call { callee := .value (.func f), args := _, argTypes := _ } => !(lendsB tab f)
  | .call { callee := .value (.tmp t), args := _, argTypes := _ } => match L t with
    | some (.v (.one (.clo f _))) => !(lendsB tab f)
    | _ => true
  | _ => true
theorem evOp_ok2 {eqs : List (Nat × Nat)} {tab : Tab E} {N : Nat} {a : Act} {K : Act → World → Prop} {Q : Exit → Act → World → Prop} {k : Option (SV E) → Chs E → Option R} (heq : ∀ p ∈ eqs, EqFact P E p.1 p.2) (ht : tab.OK P E) (hnx : Fresh g nx) (hE : ER P E z g N a L) (hH : HR P E Bs F0 w0 w z g H)
    (h : evOp P E eqs tab L H nx o k = some r)
    (hK : ∀ s u v w' z2 g2, k s u = some r → z.Le z2 → g.Le g2 → ER P E z2 g2 N a L → HR P E Bs F0 w0 w' z2 g2 (upH H u) → Fresh g2 (nx + 1 + u.length) → (∀ sv, s = some sv → RV P E z2 g2 sv v) → (makesB tab L o = true → Ext w w') → K (a.put o.dst v) w') : o.wp P a w K Q := by
  have hρ := hE.op
  have hρc : ∀ v, a.eval (.const v) = v := fun v => rfl
  have loud : ∀ {ex : Bool}, (makesB tab L o = true → ex = true) → Turns P E Bs F0 w0 w z g nx H a.eval o ex k r → o.wp P a w K Q := by
    rintro ex hex ⟨s, u, z2, g2, w', n, hk, ht⟩
    unfold Oper.wp
    rw [ht.run]
    have hfr : Fresh g2 (nx + 1 + u.length) := fun i hi => ht.fresh i (by omega)
    cases s with
    | some sv =>
      obtain ⟨v, rfl, hv⟩ := ht.val
      exact hK _ u v w' z2 g2 hk ht.le ht.leg (hE.le ht.le ht.leg) ht.hr hfr (fun sv' e => by obtain rfl := Option.some.inj e; exact hv) fun hm => ht.ext (hex hm)
    | none =>
      have hn : n = .skip := ht.val
      subst hn
      exact hK none u undef w' z2 g2 hk ht.le ht.leg (hE.le ht.le ht.leg) ht.hr hfr (fun sv' e => by cases e) fun hm => ht.ext (hex hm)
  unfold evOp at h
  split at h
  · rename_i T x ho; exact loud (fun _ => rfl) (lBox_ok ho hnx hρ hH h)
  · rename_i T ho; exact loud (fun _ => rfl) (lAlloc_ok ho hnx hH h)
  · rename_i T x y ho; exact loud (fun hm => by simp [makesB, ho] at hm) (lStore_ok ho hnx hρ hH h)
  · rename_i T n ps ho; exact loud (fun _ => rfl) (lSlice_ok ho hnx hρ hH h)
  · rename_i T x y ho; exact loud (fun _ => rfl) (lMake_ok ho hρc hnx hρ hH h)
  · rename_i T ho; exact loud (fun _ => rfl) (lMakeMap_ok ho hnx hH h)
  · rename_i T m x y ho; exact loud (fun hm => by simp [makesB, ho] at hm) (lMapUpd_ok heq ho hnx hρ hH h)
  · rename_i T m x ho; exact loud (fun hm => by simp [makesB, ho] at hm) (lMapEnt_ok heq ho hnx hρ hH h)
  · rename_i T m x y ho; exact loud (fun hm => by simp [makesB, ho] at hm) (lEntSt_ok ho hnx hρ hH h)
  · rename_i x y T T' ho
    split at h
    · rename_i hb
      obtain rfl := Nat.eq_of_beq_eq_true hb
      exact loud (fun hm => by simp [makesB, ho] at hm) (lApp_ok ho hnx hρ hH h)
    · cases h
  · rename_i x y T T2 ho; exact loud (fun hm => by simp [makesB, ho] at hm) (lCopy_ok ho hnx hρ hH h)
  · rename_i f args ats ho
    split at h
    · rename_i xs hxs
      obtain ⟨hb, hret⟩ := lCall_ok ht hnx hH (argsL_ok hρ hxs) h
      unfold Oper.wp
      rw [call_enter ho rfl hb]
      simp only [Oper.upon]
      refine Calls.mono hret fun e w' ⟨v, he, s, u, z2, g2, hk, h1, h2, h3, h4, h5, h6⟩ => ?_
      subst he
      exact hK _ u v w' z2 g2 hk h1 h2 (hE.le h1 h2) h5 h3 (fun sv' e => by obtain rfl := Option.some.inj e; exact h4) fun hm => h6 (by simpa [makesB, ho] using hm)
    · cases h
  · rename_i t args ats ho
    split at h
    · rename_i f ids hL
      split at h
      · rename_i xs hxs
        obtain ⟨us, hf, hus⟩ := hρ (.tmp t) _ hL
        obtain ⟨hb, hret⟩ := lCall_ok ht hnx hH ((argsL_ok hρ hxs).append (capsV_ok hus)) h
        unfold Oper.wp
        rw [call_enterV ho hf hb]
        simp only [Oper.upon]
        have e : (args.toList.map a.eval).toArray ++ us.toArray = (args.toList.map a.eval ++ us).toArray := by simp
        rw [e]
        refine Calls.mono hret fun e w' ⟨v, he, s, u, z2, g2, hk, h1, h2, h3, h4, h5, h6⟩ => ?_
        subst he
        exact hK _ u v w' z2 g2 hk h1 h2 (hE.le h1 h2) h5 h3 (fun sv' e => by obtain rfl := Option.some.inj e; exact h4) fun hm => h6 (by simpa [makesB, ho, hL] using hm)
      · cases h
    · obtain ⟨f, caps, s, hf, hb, hk, hret⟩ := lCallV_ok hρ hH h
      unfold Oper.wp
      rw [call_enterV ho hf hb]
      simp only [Oper.upon]
      refine Calls.mono hret fun e w' ⟨v, he, hv, hx⟩ => ?_
      subst he
      exact hK _ [] v w' z g hk (Fz.Le.refl z) (Ga.Le.refl g) hE (hH.ext hx) (fun i hi => hnx i (by omega)) (fun sv' e => by obtain rfl := Option.some.inj e; exact hv) fun _ => hx
  · obtain ⟨s, v, up, g2, hk, hg, hgn, hv, hrun, hup⟩ := qOp_ok (W := w) (I := fun w' => w' = w) heq hnx.self hρ hH (fun w' e => by subst e; exact Stands.refl hH) h
    unfold Oper.wp
    rw [hrun w rfl]
    have hfr : ∀ m, Fresh g2 (nx + 1 + m) := fun m i hi => by rw [hgn i (by omega)]; exact hnx i (by omega)
    cases up with
    | none =>
      obtain rfl := hup
      exact hK _ [] v w z g2 hk (Fz.Le.refl z) (Ga.Le.refl g2) hE hH (hfr _) (fun sv' e => by obtain rfl := Option.some.inj e; exact hv) fun _ => Ext.refl w
    | some p =>
      obtain ⟨i, o2⟩ := p
      obtain ⟨o1, h1, h2, h3⟩ := hup
      exact hK _ [(i, some o2)] v w z g2 hk (Fz.Le.refl z) hg (hE.le (Fz.Le.refl z) hg) (hH.up hg h1 h2 h3) (hfr _) (fun sv' e => by obtain rfl := Option.some.inj e; exact hv) fun _ => Ext.refl w
theorem evOp_ok {eqs : List (Nat × Nat)} {tab : Tab E} {N : Nat} {a : Act} {K : Act → World → Prop} {Q : Exit → Act → World → Prop} {k : Option (SV E) → Chs E → Option R} (heq : ∀ p ∈ eqs, EqFact P E p.1 p.2) (ht : tab.OK P E) (hnx : Fresh g nx) (hE : ER P E z g N a L) (hH : HR P E Bs F0 w0 w z g H)
    (h : evOp P E eqs tab L H nx o k = some r)
    (hK : ∀ s u v w' z2 g2, k s u = some r → z.Le z2 → g.Le g2 → ER P E z2 g2 N a L → HR P E Bs F0 w0 w' z2 g2 (upH H u) → Fresh g2 (nx + 1 + u.length) → (∀ sv, s = some sv → RV P E z2 g2 sv v) → K (a.put o.dst v) w') : o.wp P a w K Q :=
  evOp_ok2 heq ht hnx hE hH h fun s u v w' z2 g2 h1 h2 h3 h4 h5 h6 h7 _ => hK s u v w' z2 g2 h1 h2 h3 h4 h5 h6 h7
end
end Rt
end Go
