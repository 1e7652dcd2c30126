/-
  The second engine: operations that leave old memory alone and yield the same value wherever they are carried out. No program in sight.
-/
import Derived.Test.YtboplmpnjepdnaaGreatRo
namespace Go
namespace Rt
open Go.RowKit

section
variable {P : Program} {E : TE} {z z' : Fz} {g g' : Ga} {nx : Nat} {w w' W w0 : World} {I : World → Prop} {H H' : Nat → Option (Obj E)} {L : Nat → Option (SV E)} {ρ : Operand → Value} {o : Oper} {Bs : List Nat} {F0 : Nat → Prop} {R : Type} {r : R}
/-! ### The value of what holds numbers, truth values and text alone -/
def SC.enc : SC E → Option Value
  | .dt (.int k) n => some (.int k n)
  | .dt .bool b => some (.bool b)
  | .dt .str s => some (S s)
  | _ => none
def encCs : List (SC E) → Option (List Value)
  | [] => some []
  | c :: l => match c.enc, encCs l with
    | some v, some vs => some (v :: vs)
    | _, _ => none
def V1.enc : V1 E → Option Value
  | .one c => c.enc
  | .agg l => match encCs l with
    | some vs => some (.agg vs.toArray)
    | none => none
def encVs : List (V1 E) → Option (List Value)
  | [] => some []
  | c :: l => match c.enc, encVs l with
    | some v, some vs => some (v :: vs)
    | _, _ => none
def SV.enc : SV E → Option Value
  | .v x => x.enc
  | .tup l => match encVs l with
    | some vs => some (.tuple vs.toArray)
    | none => none
theorem SC.enc_ok {c : SC E} {u v : Value} (h : c.enc = some u) : RC P E z g c v ↔ v = u := by
  unfold SC.enc at h
  split at h
  · obtain rfl := Option.some.inj h
    exact ⟨fun hr => by obtain ⟨vs, e, _⟩ := RD.int_inv (hr : RD E z _ _ [v]); simp at e; exact e.1, fun e => by subst e; exact RD.int .nil⟩
  · obtain rfl := Option.some.inj h
    exact ⟨fun hr => by obtain ⟨vs, e, _⟩ := RD.bool_inv (hr : RD E z _ _ [v]); simp at e; exact e.1, fun e => by subst e; exact RD.bool .nil⟩
  · obtain rfl := Option.some.inj h
    exact ⟨fun hr => by obtain ⟨vs, e, _⟩ := RD.str_inv (hr : RD E z _ _ [v]); simp at e; exact e.1, fun e => by subst e; exact RD.str .nil⟩
  · cases h
theorem encCs_ok : ∀ {l : List (SC E)} {us vs : List Value}, encCs l = some us → (All2 (RC P E z g) l vs ↔ vs = us)
  | [], us, vs, h => by
    obtain rfl := Option.some.inj h
    exact ⟨fun h => by cases h; rfl, fun e => by subst e; exact .nil⟩
  | c :: l, us, vs, h => by
    simp only [encCs] at h
    split at h
    · rename_i v vs' hv hvs
      obtain rfl := Option.some.inj h
      refine ⟨fun h => ?_, fun e => ?_⟩
      · cases h with
        | cons h1 h2 =>
          obtain rfl := (SC.enc_ok hv).1 h1
          obtain rfl := (encCs_ok hvs).1 h2
          rfl
      · subst e
        exact .cons ((SC.enc_ok hv).2 rfl) ((encCs_ok hvs).2 rfl)
    · cases h
theorem V1.enc_ok {x : V1 E} {u v : Value} (h : x.enc = some u) : R1 P E z g x v ↔ v = u := by
  cases x with
  | one c => exact SC.enc_ok h
  | agg l =>
    simp only [V1.enc] at h
    split at h
    · rename_i vs hvs
      obtain rfl := Option.some.inj h
      exact ⟨fun ⟨us, e, hu⟩ => by obtain rfl := (encCs_ok hvs).1 hu; exact e, fun e => ⟨vs, e, (encCs_ok hvs).2 rfl⟩⟩
    · cases h
theorem encVs_ok : ∀ {l : List (V1 E)} {us vs : List Value}, encVs l = some us → (All2 (R1 P E z g) l vs ↔ vs = us)
  | [], us, vs, h => by
    obtain rfl := Option.some.inj h
    exact ⟨fun h => by cases h; rfl, fun e => by subst e; exact .nil⟩
  | c :: l, us, vs, h => by
    simp only [encVs] at h
    split at h
    · rename_i v vs' hv hvs
      obtain rfl := Option.some.inj h
      refine ⟨fun h => ?_, fun e => ?_⟩
      · cases h with
        | cons h1 h2 =>
          obtain rfl := (V1.enc_ok hv).1 h1
          obtain rfl := (encVs_ok hvs).1 h2
          rfl
      · subst e
        exact .cons ((V1.enc_ok hv).2 rfl) ((encVs_ok hvs).2 rfl)
    · cases h
theorem SV.enc_ok {x : SV E} {u v : Value} (h : x.enc = some u) : RV P E z g x v ↔ v = u := by
  cases x with
  | v x => exact V1.enc_ok h
  | tup l =>
    simp only [SV.enc] at h
    split at h
    · rename_i vs hvs
      obtain rfl := Option.some.inj h
      exact ⟨fun ⟨us, e, hu⟩ => by obtain rfl := (encVs_ok hvs).1 hu; exact e, fun e => ⟨vs, e, (encVs_ok hvs).2 rfl⟩⟩
    · cases h
/-! ### Quiet operations -/
def qCall (E : TE) (tab : Tab E) (H : Nat → Option (Obj E)) (nx : Nat) (f : FuncId) (xs : List (V1 E)) {R : Type} (k : Option (SV E) → Chs E → Option R) : Option R :=
  match lendsB tab f with
  | true => none
  | false => lCall E tab H nx f xs fun s u => match s, u with
    | some sv, [] => match sv.enc with
      | some _ => k (some sv) []
      | none => none
    | _, _ => none
noncomputable def evOpQ (P : Program) (E : TE) (eqs : List (Nat × Nat)) (tab : Tab E) (L : Nat → Option (SV E)) (H : Nat → Option (Obj E)) (nx : Nat) (o : Oper) {R : Type} (k : Option (SV E) → Chs E → Option R) : Option R :=
  match o.op with
  | .call { callee := .value (.func f), args := args, argTypes := _ } => match argsL E L args.toList with
    | some xs => qCall E tab H nx f xs k
    | none => none
  | .call { callee := .value (.tmp t), args := args, argTypes := _ } => match L t with
    | some (.v (.one (.clo f ids))) => match argsL E L args.toList with
      | some xs => qCall E tab H nx f (xs ++ capsV E ids) k
      | none => none
    | _ => none
  | _ => qOp P E eqs L H nx o fun s up => k (some s) (match up with | none => [] | some (i, p) => [(i, some p)])
/-- What the abstract memory says of W, it says of another world. -/
def Keeps (P : Program) (E : TE) (z : Fz) (g : Ga) (H : Nat → Option (Obj E)) (W w : World) : Prop := Stands z g H W w ∧ ∃ Bs F0 w0, HR P E Bs F0 w0 w z g H
theorem Keeps.of_ext (hH : HR P E Bs F0 w0 W z g H) (h : Ext W w) : Keeps P E z g H W w := ⟨Stands.of_ext hH h, _, _, _, hH.ext h⟩
/-- What is so behind a quiet operation. -/
def Quiet (P : Program) (E : TE) (Bs : List Nat) (F0 : Nat → Prop) (w0 W : World) (I : World → Prop) (z : Fz) (g : Ga) (nx : Nat) (H : Nat → Option (Obj E)) (ρ : Operand → Value) (o : Oper) {R : Type} (k : Option (SV E) → Chs E → Option R) (r : R) : Prop :=
  ∃ s u v g2, k (some s) u = some r ∧ g.Le g2 ∧ HR P E Bs F0 w0 W z g2 (upH H u) ∧ Fresh g2 (nx + 1 + u.length) ∧ RV P E z g2 s v ∧ ∀ w', I w' → Oper.quietUponX P w' v ((execOp ρ o).run P w')
theorem qCall_ok {tab : Tab E} (ht : tab.OK P E) (hnx : Fresh g nx) (hH : HR P E Bs F0 w0 W z g H) (hI : ∀ w', I w' → Keeps P E z g H W w') {f : FuncId} {xs : List (V1 E)} {vs : List Value} {k : Option (SV E) → Chs E → Option R} (hv : All2 (R1 P E z g) xs vs) (h : qCall E tab H nx f xs k = some r)
    (hrun : bodyB P f = true → ∀ w', (execOp ρ o).run P w' = .ok (.enter f vs.toArray) w') : Quiet P E Bs F0 w0 W I z g nx H ρ o k r := by
  unfold qCall at h
  split at h
  · cases h
  · rename_i hl
    obtain ⟨hb, s, u, hk, hret⟩ := lCall_ok2 ht hnx hv h
    split at hk
    · rename_i sv hsv
      obtain rfl := Option.some.inj hsv
      split at hk
      · rename_i v hv'
        refine ⟨_, [], v, g, hk, Ga.Le.refl g, hH, (fun i hi => hnx i (by omega)), (SV.enc_ok hv').2 rfl, fun w' hw' => ?_⟩
        rw [hrun hb w']
        obtain ⟨_, Bs', F0', w0', hH'⟩ := hI w' hw'
        refine ⟨rfl, Calls.mono (hret Bs' F0' w0' w' hH') fun e w'' ⟨v', he, z2, g2, _, _, _, h4, _, h6⟩ => ?_⟩
        obtain rfl := (SV.enc_ok hv').1 h4
        exact ⟨he, h6 hl⟩
      · cases hk
    · cases hk
theorem evOpQ_ok {eqs : List (Nat × Nat)} {tab : Tab E} {N : Nat} {a : Act} {k : Option (SV E) → Chs E → Option R} (heq : ∀ p ∈ eqs, EqFact P E p.1 p.2) (ht : tab.OK P E) (hnx : Fresh g nx) (hE : ER P E z g N a L) (hH : HR P E Bs F0 w0 W z g H) (hI : ∀ w', I w' → Keeps P E z g H W w')
    (h : evOpQ P E eqs tab L H nx o k = some r) : Quiet P E Bs F0 w0 W I z g nx H a.eval o k r := by
  have hρ := hE.op
  unfold evOpQ at h
  split at h
  · rename_i f args ats ho
    split at h
    · rename_i xs hxs
      exact qCall_ok ht hnx hH hI (argsL_ok hρ hxs) h fun hb w' => call_enter ho rfl hb w'
    · cases h
  · rename_i t args ats ho
    split at h
    · rename_i f ids hL
      split at h
      · rename_i xs hxs
        obtain ⟨us, hf, hus⟩ := hρ (.tmp t) _ hL
        refine qCall_ok ht hnx hH hI ((argsL_ok hρ hxs).append (capsV_ok hus)) h fun hb w' => ?_
        rw [call_enterV ho hf hb w']
        simp
      · cases h
    · cases h
  · obtain ⟨s, v, up, g2, hk, hg, hgn, hv, hrun, hup⟩ := qOp_ok (W := W) (I := I) heq hnx.self hρ hH (fun w' hw' => (hI w' hw').1) h
    have hfr : ∀ m, Fresh g2 (nx + 1 + m) := fun m i hi => by rw [hgn i (by omega)]; exact hnx i (by omega)
    have hq : ∀ w', I w' → Oper.quietUponX P w' v ((execOp a.eval o).run P w') := fun w' hw' => by rw [hrun w' hw']; exact ⟨rfl, rfl⟩
    cases up with
    | none =>
      obtain rfl := hup
      exact ⟨s, [], v, g2, hk, Ga.Le.refl g2, hH, hfr _, hv, hq⟩
    | some p =>
      obtain ⟨i, o2⟩ := p
      obtain ⟨o1, h1, h2, h3⟩ := hup
      exact ⟨s, [(i, some o2)], v, g2, hk, hg, hH.up hg h1 h2 h3, hfr _, hv, hq⟩
/-! ### Operations that read no memory -/
noncomputable def qFree (P : Program) (E : TE) (eqs : List (Nat × Nat)) (L : Nat → Option (SV E)) (o : Oper) {R : Type} (k : SV E → Up E → Option R) : Option R :=
  match o.op with
  | .move x => qMove E L x k
  | .assign x => qMove E L x k
  | .nilCheck x => qNil E L x k
  | .extract x i => qExtract E L x i k
  | .field T x f => qField P E L T x f k
  | .fieldAddr T x f => qFieldAddr P E L T x f k
  | .unOp _ _ _ => qPure P E L o k
  | .binOp op T x y _ => qBin P E L (fun _ => none) eqs o op T x y k
  | .index T x i => qIndex P E L T x i k
  | .slice T x lo hi none => qSlice P E L (fun _ => none) T x lo hi k
  | .convert _ _ _ => qPure P E L o k
  | .build T ps => qBuild P E L T ps k
  | .makeFunc f first caps => qMakeFunc E L f first caps k
  | .call { callee := .builtin .len, args := ⟨[x]⟩, argTypes := ⟨[T]⟩ } => qLen P E L (fun _ => none) T x k
  | _ => none
theorem qFree_ok {eqs : List (Nat × Nat)} {k : SV E → Up E → Option R} (heq : ∀ p ∈ eqs, EqFact P E p.1 p.2) (hρ : OpR P E z g L ρ) (hH : HR P E Bs F0 w0 W z g (fun _ => none)) (h : qFree P E eqs L o k = some r) (I : World → Prop) : Good P E z g nx I (fun _ => none) ρ o k r := by
  unfold qFree at h
  split at h
  case h_1 x ho => exact qMove_ok (.inl ho) hρ h
  case h_2 x ho => exact qMove_ok (.inr ho) hρ h
  case h_3 x ho => exact qNil_ok ho hρ h
  case h_4 x i ho => exact qExtract_ok ho hρ h
  case h_5 T x f ho => exact qField_ok ho hρ h
  case h_6 T x f ho => exact qFieldAddr_ok ho hρ h
  case h_7 => exact qPure_ok hρ h
  case h_8 op T x y yt ho => exact qBin_ok ho heq hρ hH h
  case h_9 T x i ho => exact qIndex_ok ho hρ h
  case h_10 T x lo hi ho => exact qSlice_ok ho hρ hH h
  case h_11 => exact qPure_ok hρ h
  case h_12 T ps ho => exact qBuild_ok ho hρ h
  case h_13 f first caps ho => exact qMakeFunc_ok ho hρ h
  case h_14 x T ho => exact qLen_ok ho hρ hH h
  case h_15 => cases h
end
end Rt
end Go
