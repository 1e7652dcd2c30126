/-
 What the statements of this seat hang on, part 2: Rc Rd Ru Re Rf Rg Rh Rv Ri Rj Rk Rl Rm.
-/
import Derived.Test.YtolgkhjkdadhiaaGreatYA1
namespace Go
namespace Rt
open Go.RowKit
section
variable {P : Program} {E : TE} {z : Fz} {g : Ga}
def constC (E : TE) : Value → Option (SC E)
 | .int k n => some (.dt (.int k) n)
 | .bool b => some (.dt .bool b)
 | .string s => some (.dt .str s.data.toList)
 | .slice none 0 0 => some .nils
 | _ => none
theorem constC_ok {v : Value} {c : SC E} (h : constC E v = some c) : RC P E z g c v := by
 unfold constC at h
 split at h
 ·obtain rfl := Option.some.inj h; exact .int .nil
 ·obtain rfl := Option.some.inj h; exact .bool .nil
 ·obtain rfl := Option.some.inj h; exact .str .nil
 ·obtain rfl := Option.some.inj h; rfl
 ·cases h
def constCs (E : TE) : List Value → Option (List (SC E))
 | [] => some []
 | v :: r => match constC E v with
  | none => none
  | some c => match constCs E r with
   | none => none
   | some l => some (c :: l)
theorem constCs_ok : ∀ {vs : List Value} {l : List (SC E)}, constCs E vs = some l → All2 (RC P E z g) l vs
 | [], l, h => by simp only [constCs, Option.some.injEq] at h; subst h; exact .nil
 | v :: r, l, h => by
  simp only [constCs] at h
  split at h
  ·cases h
  ·rename_i c hc
   split at h
   ·cases h
   ·rename_i l' hl
    obtain rfl := Option.some.inj h
    exact .cons (constC_ok hc) (constCs_ok hl)
def constV (E : TE) : Value → Option (SV E)
 | .agg cs => match constCs E cs.toList with
  | some l => some (.v (.agg l))
  | none => none
 | v => match constC E v with
  | some c => some (.v (.one c))
  | none => none
theorem constV_ok {v : Value} {s : SV E} (h : constV E v = some s) : RV P E z g s v := by
 unfold constV at h
 split at h
 ·split at h
  ·rename_i l hl
   obtain rfl := Option.some.inj h
   exact ⟨_, rfl, constCs_ok hl⟩
  ·cases h
 ·split at h
  ·rename_i c hc
   obtain rfl := Option.some.inj h
   exact constC_ok hc
  ·cases h
def opS (E : TE) (L : Nat → Option (SV E)) : Operand → Option (SV E)
 | .tmp t => L t
 | .const v => constV E v
 | .func f => some (.v (.one (.clo f [])))
 | _ => none
structure ER (P : Program) (E : TE) (z : Fz) (g : Ga) (N : Nat) (a : Act) (L : Nat → Option (SV E)) : Prop where
 size : a.tmps.size = N
 defers : a.defers = []
 get : ∀ t s, L t = some s → ∃ v, a.tmps[t]? = some v ∧ RV P E z g s v
abbrev OpR (P : Program) (E : TE) (z : Fz) (g : Ga) (L : Nat → Option (SV E)) (ρ : Operand → Value) : Prop := ∀ x s, opS E L x = some s → RV P E z g s (ρ x)
theorem ER.op {N : Nat} {a : Act} {L : Nat → Option (SV E)} (h : ER P E z g N a L) : OpR P E z g L a.eval := by
 intro x s hx
 cases x with
 | tmp t =>
  obtain ⟨v, h1, h2⟩ := h.get t s hx
  simpa [Act.eval, h1] using h2
 | const v => exact constV_ok hx
 | global g => cases hx
 | func f =>
  obtain rfl := Option.some.inj hx
  exact ⟨[], rfl, .nil⟩
theorem ER.less {N : Nat} {a : Act} {L L' : Nat → Option (SV E)} (h : ER P E z g N a L) (hL : ∀ t s, L' t = some s → L t = some s) : ER P E z g N a L' :=
 ⟨h.size, h.defers, fun t s e => h.get t s (hL t s e)⟩
theorem ER.le {z' : Fz} {g' : Ga} {N : Nat} {a : Act} {L : Nat → Option (SV E)} (h : ER P E z g N a L) (hz : z.Le z') (hg : g.Le g') : ER P E z' g' N a L :=
 ⟨h.size, h.defers, fun t s e => let ⟨v, h1, h2⟩ := h.get t s e; ⟨v, h1, h2.le hz hg⟩⟩
theorem ER.put {N : Nat} {a : Act} {L L' : Nat → Option (SV E)} (h : ER P E z g N a L) {d : Nat} (hd : Nat.blt d N = true) {s : SV E} {v : Value} (hv : RV P E z g s v)
  (hL : ∀ t u, L' t = some u → (t = d ∧ u = s) ∨ (t ≠ d ∧ L t = some u)) : ER P E z g N (a.put (some d) v) L' := by
 have hd' : d < N := by simpa using hd
 refine ⟨by simpa [Act.put] using h.size, h.defers, fun t u e => ?_⟩
 rcases hL t u e with ⟨rfl, rfl⟩ | ⟨h1, h2⟩
 ·exact ⟨v, by simp [Act.put, h.size, hd'], hv⟩
 ·obtain ⟨v', h3, h4⟩ := h.get t u h2
  refine ⟨v', ?_, h4⟩
  simp only [Act.put]
  rw [Array.getElem?_setIfInBounds_ne (Ne.symm h1)]
  exact h3
def SV.int? : SV E → Option (IntKind × Int)
 | .v (.one (.dt (.int k) n)) => some (k, n)
 | _ => none
def SV.str? : SV E → Option Str
 | .v (.one (.dt .str s)) => some s
 | _ => none
def SV.bool? : SV E → Option Bool
 | .v (.one (.dt .bool b)) => some b
 | _ => none
def SV.cells? : SV E → Option (List (SC E))
 | .v (.one c) => some [c]
 | .v (.agg l) => some l
 | _ => none
theorem SV.int_ok {s : SV E} {v : Value} {k : IntKind} {n : Int} (h : s.int? = some (k, n)) (r : RV P E z g s v) : v = .int k n := by
 unfold SV.int? at h
 split at h
 ·simp only [Option.some.injEq, Prod.mk.injEq] at h
  obtain ⟨rfl, rfl⟩ := h
  obtain ⟨vs, e, r⟩ := RD.int_inv (r : RD E z _ _ [v])
  simp at e; exact e.1
 ·cases h
theorem SV.str_ok {s : SV E} {v : Value} {x : Str} (h : s.str? = some x) (r : RV P E z g s v) : v = S x := by
 unfold SV.str? at h
 split at h
 ·simp only [Option.some.injEq] at h
  subst h
  obtain ⟨vs, e, r⟩ := RD.str_inv (r : RD E z _ _ [v])
  simp at e; exact e.1
 ·cases h
theorem SV.bool_ok {s : SV E} {v : Value} {b : Bool} (h : s.bool? = some b) (r : RV P E z g s v) : v = .bool b := by
 unfold SV.bool? at h
 split at h
 ·simp only [Option.some.injEq] at h
  subst h
  obtain ⟨vs, e, r⟩ := RD.bool_inv (r : RD E z _ _ [v])
  simp at e; exact e.1
 ·cases h
theorem SV.cells_ok {s : SV E} {v : Value} {l : List (SC E)} (h : s.cells? = some l) (r : RV P E z g s v) : All2 (RC P E z g) l v.cells.toList := by
 unfold SV.cells? at h
 split at h
 ·rename_i c
  obtain rfl := Option.some.inj h
  have hc := RC.cell (c := c) r
  have : v.cells = #[v] := by cases v <;> first | rfl | cases hc
  rw [this]
  exact .cons r .nil
 ·obtain rfl := Option.some.inj h
  obtain ⟨vs, rfl, r⟩ := r
  exact r
 ·cases h
def SV.val? : SV E → Option Value
 | .v (.one (.dt (.int k) n)) => some (.int k n)
 | .v (.one (.dt .bool b)) => some (.bool b)
 | .v (.one (.dt .str s)) => some (S s)
 | _ => none
theorem SV.val_ok {s : SV E} {v u : Value} (h : s.val? = some u) (r : RV P E z g s v) : v = u := by
 unfold SV.val? at h
 split at h
 ·obtain rfl := Option.some.inj h; exact SV.int_ok rfl r
 ·obtain rfl := Option.some.inj h; exact SV.bool_ok rfl r
 ·obtain rfl := Option.some.inj h; exact SV.str_ok rfl r
 ·cases h
abbrev Up (E : TE) := Option (Nat × Obj E)
def UpOK (P : Program) (E : TE) (g g' : Ga) (H : Nat → Option (Obj E)) : Up E → Prop
 | none => g' = g
 | some (i, o') => ∃ o, H i = some o ∧ (∀ z w, ObjR P E z g w i o → ObjR P E z g' w i o') ∧ ∀ k, fpO g' i o' k ↔ fpO g i o k
def Stands (z : Fz) (g : Ga) {E : TE} (H : Nat → Option (Obj E)) (W w : World) : Prop := z.In w ∧ ∀ id o k, H id = some o → fpO g id o k → w.heap[k]? = W.heap[k]?
theorem Stands.hold {P : Program} {E : TE} {z : Fz} {g : Ga} {H : Nat → Option (Obj E)} {Bs : List Nat} {F0 : Nat → Prop} {w0 W w : World} (h : Stands z g H W w) (hH : HR P E Bs F0 w0 W z g H) : ∀ id o, H id = some o → ObjR P E z g w id o :=
 fun id o e => (hH.hold id o e).keep (Fz.Le.refl z) (Ga.Le.refl g) fun k hk => h.2 id o k e hk
theorem Stands.of_ext {P : Program} {E : TE} {z : Fz} {g : Ga} {H : Nat → Option (Obj E)} {Bs : List Nat} {F0 : Nat → Prop} {w0 W w : World} (hH : HR P E Bs F0 w0 W z g H) (h : Ext W w) : Stands z g H W w :=
 ⟨hH.fz.ext h, fun id o k e hk => h.below.block k ((hH.hold id o e).lt hk)⟩
theorem Stands.refl {P : Program} {E : TE} {z : Fz} {g : Ga} {H : Nat → Option (Obj E)} {Bs : List Nat} {F0 : Nat → Prop} {w0 W : World} (hH : HR P E Bs F0 w0 W z g H) : Stands z g H W W := ⟨hH.fz, fun _ _ _ _ _ => rfl⟩
def Good (P : Program) (E : TE) (z : Fz) (g : Ga) (nx : Nat) (I : World → Prop) (H : Nat → Option (Obj E)) (ρ : Operand → Value) (o : Oper) {R : Type} (k : SV E → Up E → Option R) (r : R) : Prop :=
 ∃ s v up g', k s up = some r ∧ g.Le g' ∧ (∀ i, i ≠ nx → g' i = g i) ∧ RV P E z g' s v ∧ (∀ w', I w' → (execOp ρ o).run P w' = .ok (.value v) w') ∧ UpOK P E g g' H up
section
variable {L : Nat → Option (SV E)} {H : Nat → Option (Obj E)} {ρ : Operand → Value} {W w0 : World} {I : World → Prop} {o : Oper} {R : Type} {k : SV E → Up E → Option R} {r : R} {Bs : List Nat} {F0 : Nat → Prop} {nx : Nat}
theorem Good.plain {s : SV E} {v : Value} (hk : k s none = some r) (hv : RV P E z g s v) (hr : ∀ w', (execOp ρ o).run P w' = .ok (.value v) w') : Good P E z g nx I H ρ o k r :=
 ⟨s, v, none, g, hk, Ga.Le.refl g, fun _ _ => rfl, hv, fun w' _ => hr w', rfl⟩
def ρS (E : TE) (L : Nat → Option (SV E)) (x : Operand) : Value := ((opS E L x).bind SV.val?).getD undef
def knownS (E : TE) (L : Nat → Option (SV E)) : List Operand → Bool
 | [] => true
 | x :: l => (match (opS E L x).bind SV.val? with | some _ => true | none => false) && knownS E L l
theorem knownS_mem (hρ : OpR P E z g L ρ) : ∀ {l : List Operand}, knownS E L l = true → ∀ x ∈ l, ρ x = ρS E L x
 | [], _, x, hx => by cases hx
 | y :: l, h, x, hx => by
  simp only [knownS, Bool.and_eq_true] at h
  rcases List.mem_cons.1 hx with rfl | hx
  ·cases hs : opS E L x with
   | none => rw [hs] at h; simp at h
   | some s =>
    rw [hs] at h
    cases hv : s.val? with
    | none => rw [Option.bind_some, hv] at h; simp at h
    | some u => rw [SV.val_ok hv (hρ x s hs)]; simp [ρS, hs, hv]
  ·exact knownS_mem hρ h.2 x hx
def qPure (P : Program) (E : TE) (L : Nat → Option (SV E)) (o : Oper) {R : Type} (k : SV E → Up E → Option R) : Option R :=
 match knownS E L o.op.operands.toList && !isSelect o.op with
 | true => match evalPure P (execOp (ρS E L) o) with
  | some (.value v) => match constV E v with
   | some s => k s none
   | none => none
  | _ => none
 | false => none
theorem qPure_ok (hρ : OpR P E z g L ρ) (h : qPure P E L o k = some r) : Good P E z g nx I H ρ o k r := by
 unfold qPure at h
 split at h
 ·rename_i hk
  simp only [Bool.and_eq_true, Bool.not_eq_true'] at hk
  have hc : execOp ρ o = execOp (ρS E L) o := by
   refine execOp_congr o (fun cs b e => ?_) fun x hx => ?_
   ·rw [e] at hk; simp [isSelect] at hk
   ·exact knownS_mem hρ hk.1 x (by simpa using hx)
  split at h
  ·rename_i v hv
   split at h
   ·rename_i s hs
    exact .plain h (constV_ok hs) fun w' => by rw [hc]; exact evalPure_run hv w'
   ·cases h
  ·cases h
 ·cases h
def qMove (E : TE) (L : Nat → Option (SV E)) (x : Operand) {R : Type} (k : SV E → Up E → Option R) : Option R := match opS E L x with
 | some s => k s none
 | none => none
theorem qMove_ok {x : Operand} (ho : o.op = .move x ∨ o.op = .assign x) (hρ : OpR P E z g L ρ) (h : qMove E L x k = some r) : Good P E z g nx I H ρ o k r := by
 unfold qMove at h
 split at h
 ·rename_i s hs
  refine .plain h (hρ x s hs) fun w' => ?_
  unfold execOp
  rcases ho with ho | ho <;> rw [ho] <;> rfl
 ·cases h
def SC.sure : SC E → Bool
 | .ptr .. | .elo .. | .elf .. => true
 | .fn1 .. | .fn2 .. | .clo .. => true
 | _ => false
def qNil (E : TE) (L : Nat → Option (SV E)) (x : Operand) {R : Type} (k : SV E → Up E → Option R) : Option R := match opS E L x with
 | some (.v (.one c)) => match c.sure with
  | true => k (.v (.one c)) none
  | false => none
 | _ => none
theorem qNil_ok {x : Operand} (ho : o.op = .nilCheck x) (hρ : OpR P E z g L ρ) (h : qNil E L x k = some r) : Good P E z g nx I H ρ o k r := by
 unfold qNil at h
 split at h
 ·rename_i c hs
  split at h
  ·rename_i hc
   have hr := hρ x _ hs
   refine .plain h hr fun w' => ?_
   unfold execOp
   rw [ho]
   simp only
   generalize ρ x = v at hr
   cases c with
   | ptr id off => obtain ⟨l, _, rfl⟩ := hr; rfl
   | elo id q i off => obtain ⟨l, _, _, rfl⟩ := hr; rfl
   | elf t y off => obtain ⟨b, q, rr, rfl, _⟩ := hr; rfl
   | fn1 a q f => obtain ⟨fid, caps, rfl, _⟩ := hr; rfl
   | fn2 a b q f => obtain ⟨fid, caps, rfl, _⟩ := hr; rfl
   | clo f caps => obtain ⟨us, rfl, _⟩ := hr; rfl
   | _ => cases hc
  ·cases h
 ·cases h
def qExtract (E : TE) (L : Nat → Option (SV E)) (x : Operand) (i : Nat) {R : Type} (k : SV E → Up E → Option R) : Option R := match opS E L x with
 | some (.tup l) => match l[i]? with
  | some y => k (.v y) none
  | none => none
 | _ => none
theorem qExtract_ok {x : Operand} {i : Nat} (ho : o.op = .extract x i) (hρ : OpR P E z g L ρ) (h : qExtract E L x i k = some r) : Good P E z g nx I H ρ o k r := by
 unfold qExtract at h
 split at h
 ·rename_i l hs
  split at h
  ·rename_i y hy
   obtain ⟨vs, e, hr⟩ := hρ x _ hs
   obtain ⟨u, hu, hru⟩ := hr.get hy
   refine .plain h (v := u) hru fun w' => ?_
   unfold execOp
   rw [ho]
   simp only [e]
   simp [Instr.extract, hu]
  ·cases h
 ·cases h
def loadC (P : Program) (T : TypeId) (l : List (SC E)) (off : Nat) : Option (V1 E) :=
 match aggB P T, sizeV P T with
 | some true, some n => match Nat.ble (off + n) l.length with | true => some (.agg ((l.drop off).take n)) | false => none
 | some false, _ => match l[off]? with | some c => some (.one c) | none => none
 | _, _ => none
theorem loadC_ok {T : TypeId} {l : List (SC E)} {off : Nat} {x : V1 E} {vs : List Value} (h : loadC P T l off = some x) (hl : All2 (RC P E z g) l vs) : ∃ v, loadVal P T vs off = some v ∧ R1 P E z g x v := by
 unfold loadC at h
 unfold loadVal
 cases ha : aggB P T with
 | none => rw [ha] at h; cases h
 | some b =>
  rw [ha] at h
  cases b with
  | true =>
   cases hn : sizeV P T with
   | none => rw [hn] at h; cases h
   | some n =>
    rw [hn] at h
    have hn' : (P.info? T).map (·.size) = some n := hn
    rw [hn']
    simp only at h ⊢
    rw [← hl.len]
    split at h
    ·rename_i hb
     obtain rfl := Option.some.inj h
     rw [hb]
     exact ⟨_, rfl, _, rfl, (hl.drop off).take n⟩
    ·cases h
  | false =>
   simp only at h ⊢
   split at h
   ·rename_i c hc
    obtain rfl := Option.some.inj h
    obtain ⟨u, hu, hr⟩ := hl.get hc
    exact ⟨u, hu, hr⟩
   ·cases h
theorem part_run {T : TypeId} {vs : List Value} {off : Nat} {v : Value} (h : loadVal P T vs off = some v) (w : World) : (part T vs.toArray off).run P w = .ok v w := by
 unfold loadVal at h
 cases ha : aggB P T with
 | none => rw [ha] at h; cases h
 | some b =>
  rw [ha] at h
  cases b with
  | true =>
   cases hi : P.info? T with
   | none => simp [hi] at h
   | some i =>
    simp only [hi, Option.map_some] at h
    split at h
    ·rename_i hb
     obtain rfl := Option.some.inj h
     simp [part, Sem.run_bind, aggB_run ha, sizeOf, typeInfo, hi]
    ·cases h
  | false =>
   simp only at h
   simp [part, Sem.run_bind, aggB_run ha, h]
def qField (P : Program) (E : TE) (L : Nat → Option (SV E)) (T : TypeId) (x : Operand) (f : Nat) {R : Type} (k : SV E → Up E → Option R) : Option R :=
 match P.underlying T, opS E L x with
 | some (.struct fs), some (.v (.agg l)) => match fs[f]? with
  | some q => match loadC P q.type l q.offset with
   | some y => k (.v y) none
   | none => none
  | none => none
 | _, _ => none
theorem qField_ok {x : Operand} {T : TypeId} {f : Nat} (ho : o.op = .field T x f) (hρ : OpR P E z g L ρ) (h : qField P E L T x f k = some r) : Good P E z g nx I H ρ o k r := by
 unfold qField at h
 split at h
 ·rename_i fs l hu hs
  split at h
  ·rename_i q hq
   split at h
   ·rename_i y hy
    obtain ⟨vs, e, hr⟩ := hρ x _ hs
    obtain ⟨v, hv, hrv⟩ := loadC_ok hy hr
    refine .plain h (v := v) hrv fun w' => ?_
    unfold execOp
    rw [ho]
    simp only [e]
    simp [Instr.field, run_underlying hu, hq, asAgg, part_run hv]
   ·cases h
  ·cases h
 ·cases h
def behind (E : TE) (H : Nat → Option (Obj E)) : SC E → Option (List (SC E) × Nat)
 | .ptr id off => match H id with
  | some (.box _ cs) => some (cs, off)
  | some (.fb t x) => some (E.cells t x, off)
  | _ => none
 | .elo id q _ off => match H id with
  | some (.row _ t _ foc) => match foc.find? fun p => Nat.beq p.1 q with
   | some p => some (E.cells t p.2.2, off)
   | none => none
  | _ => none
 | .elf t x off => some (E.cells t x, off)
 | _ => none
theorem behind_ok {c : SC E} {l : List (SC E)} {off : Nat} {v : Value} (hH : HR P E Bs F0 w0 W z g H) (h : behind E H c = some (l, off)) (hr : RC P E z g c v) :
  ∃ b base vs, v = .pointer (some ⟨b, base + off, none⟩) ∧ All2 (RC P E z g) l vs ∧ ∀ w', Stands z g H W w' → ∀ j u, vs[j]? = some u → w'.cell? ⟨b, base + j, none⟩ = some u := by
 cases c with
 | ptr id off' =>
  simp only [behind] at h
  split at h
  ·rename_i T cs hb
   simp only [Option.some.injEq, Prod.mk.injEq] at h
   obtain ⟨rfl, rfl⟩ := h
   obtain ⟨lo, h1, rfl⟩ := hr
   refine ⟨lo.b, 0, ?_⟩
   obtain ⟨lo', vs, h2, h3, h4⟩ := hH.hold _ _ hb
   rw [h1] at h2; obtain rfl := Option.some.inj h2
   refine ⟨vs, by rw [Nat.zero_add], h4, fun w' hx j u hu => ?_⟩
   have hh : w'.heap[lo.b]? = some (.cells vs.toArray T (0, 0)) := by rw [hx.2 _ _ _ hb ⟨lo, h1, rfl⟩]; exact h3
   rw [Nat.zero_add, cell_of_row w' lo.b j vs.toArray T (0, 0) hh]
   simpa using hu
  ·rename_i t x hb
   simp only [Option.some.injEq, Prod.mk.injEq] at h
   obtain ⟨rfl, rfl⟩ := h
   obtain ⟨lo, h1, rfl⟩ := hr
   obtain ⟨lo', rr, h2, hF, hrd, hcell⟩ := hH.hold _ _ hb
   rw [h1] at h2; obtain rfl := Option.some.inj h2
   refine ⟨lo.b, 0, rr, by rw [Nat.zero_add], cells_rd.1 hrd, fun w' hx j u hu => ?_⟩
   rw [Nat.zero_add, World.cell?_of_block (w := z.w) (hx.1 lo.b hF).2]
   exact hcell j u hu
  ·cases h
 | elo id q ii off' =>
  simp only [behind] at h
  split at h
  ·rename_i e t xs foc hb
   split at h
   ·rename_i p hp
    simp only [Option.some.injEq, Prod.mk.injEq] at h
    obtain ⟨rfl, rfl⟩ := h
    obtain ⟨lq, h1, _, rfl⟩ := hr
    obtain ⟨lo, rows, h2, hn, hc, hown, hlen, hrl, hrows, hfoc⟩ := hH.hold _ _ hb
    have hpi : p.1 = q := Nat.eq_of_beq_eq_true (by simpa using List.find?_some hp)
    obtain ⟨hg, lq', o', h3, hA, hln, _⟩ := hfoc p (List.mem_of_find?_eq_some hp)
    rw [hpi, h1] at h3
    obtain rfl := Option.some.inj h3
    obtain ⟨h0, hx, hlt⟩ := getI_some hg
    have hil : p.2.1.toNat < rows.length := by rw [hlen, hn]; exact hlt
    have hrd := hrows p.2.1.toNat p.2.2 _ hx (List.getElem?_eq_getElem hil)
    have hs := row_reads (w := W) (e := e) (cap := lo.cap) ⟨hown, hlen, hrl⟩
    obtain ⟨b', off2, hA', _, hcell⟩ := hs.2 (by omega)
    rw [hA] at hA'
    simp only [Option.some.injEq, Addr.mk.injEq] at hA'
    obtain ⟨rfl, rfl, _⟩ := hA'
    refine ⟨lq.b, lq.n, _, rfl, cells_rd.1 hrd, fun w' hx' j u hu => ?_⟩
    rw [World.cell?_of_block (w := W) (hx'.2 _ _ lq.b hb ⟨lo, _, h2, hA, rfl⟩), hln]
    exact (hcell p.2.1.toNat _ (List.getElem?_eq_getElem hil)).2 j u hu
   ·cases h
  ·cases h
 | elf t x off' =>
  simp only [behind, Option.some.injEq, Prod.mk.injEq] at h
  obtain ⟨rfl, rfl⟩ := h
  obtain ⟨b, q, rr, rfl, hF, hrd, hcell⟩ := hr
  refine ⟨b, q, rr, rfl, cells_rd.1 hrd, fun w' hx' j u hu => ?_⟩
  have hz := hx'.1 b hF
  rw [World.cell?_of_block (w := z.w) hz.2]
  exact hcell j u hu
 | _ => cases h
def qLoad (P : Program) (E : TE) (L : Nat → Option (SV E)) (H : Nat → Option (Obj E)) (T : TypeId) (x : Operand) {R : Type} (k : SV E → Up E → Option R) : Option R :=
 match opS E L x with
 | some (.v (.one c)) => match behind E H c with
  | some (l, off) => match loadC P T l off with
   | some y => k (.v y) none
   | none => none
  | none => none
 | _ => none
theorem qLoad_ok {x : Operand} {T : TypeId} (ho : o.op = .load T x) (hρ : OpR P E z g L ρ) (hH : HR P E Bs F0 w0 W z g H) (hI : ∀ w', I w' → Stands z g H W w') (h : qLoad P E L H T x k = some r) : Good P E z g nx I H ρ o k r := by
 unfold qLoad at h
 split at h
 ·rename_i c hs
  split at h
  ·rename_i l off hb
   split at h
   ·rename_i y hy
    obtain ⟨b, base, vs, hv, hl, hc⟩ := behind_ok hH hb (hρ x _ hs)
    obtain ⟨v, hlv, hrv⟩ := loadC_ok hy hl
    exact ⟨_, v, none, g, h, Ga.Le.refl g, fun _ _ => rfl, hrv, fun w' hx => run_load ho hv (run_loadVal hlv (hc w' (hI w' hx))), rfl⟩
   ·cases h
  ·cases h
 ·cases h
end
end
end Rt
end Go
namespace Go
namespace Rt
open Go.RowKit
noncomputable section
variable {P : Program} {E : TE} {z : Fz} {g : Ga} {nx : Nat}
variable {L : Nat → Option (SV E)} {H : Nat → Option (Obj E)} {ρ : Operand → Value} {W w0 : World} {I : World → Prop} {o : Oper} {R : Type} {k : SV E → Up E → Option R} {r : R} {Bs : List Nat} {F0 : Nat → Prop}
theorem Good.mk' {s : SV E} {v : Value} (hk : k s none = some r) (hv : RV P E z g s v) (hr : ∀ w', I w' → (execOp ρ o).run P w' = .ok (.value v) w') : Good P E z g nx I H ρ o k r :=
 ⟨s, v, none, g, hk, Ga.Le.refl g, fun _ _ => rfl, hv, hr, rfl⟩
def fieldOff (P : Program) (T : TypeId) (f : Nat) : Option Nat :=
 match P.underlying T with
 | some (.struct fs) => match fs[f]? with
  | some q => match sizeV P q.type with
   | some (_ + 1) => some q.offset
   | _ => none
  | none => none
 | _ => none
theorem fieldAt_run {T : TypeId} {f n b off : Nat} (h : fieldOff P T f = some n) (w : World) : (Instr.fieldAt T (.pointer (some ⟨b, off, none⟩)) f).run P w = .ok (.pointer (some ⟨b, off + n, none⟩)) w := by
 unfold fieldOff at h
 split at h
 ·rename_i fs hu
  split at h
  ·rename_i q hq
   split at h
   ·rename_i m hm
    obtain rfl := Option.some.inj h
    unfold sizeV at hm
    cases hi : P.info? q.type with
    | none => simp [hi] at hm
    | some i =>
     have hs : i.size = m + 1 := by simpa [hi] using hm
     simp [Instr.fieldAt, run_underlying hu, hq, Instr.sureAddr, fieldPlace, sizeOf, typeInfo, hi, hs, Addr.add_mk]
   ·cases h
  ·cases h
 ·cases h
def SC.shift (n : Nat) : SC E → Option (SC E)
 | .ptr id off => some (.ptr id (off + n))
 | .elo id q i off => some (.elo id q i (off + n))
 | .elf t x off => some (.elf t x (off + n))
 | _ => none
theorem SC.shift_ok {n : Nat} {c c' : SC E} {v : Value} (h : c.shift n = some c') (hr : RC P E z g c v) : ∃ b off, v = .pointer (some ⟨b, off, none⟩) ∧ RC P E z g c' (.pointer (some ⟨b, off + n, none⟩)) := by
 unfold SC.shift at h
 split at h
 ·obtain rfl := Option.some.inj h
  obtain ⟨l, h1, rfl⟩ := hr
  exact ⟨_, _, rfl, l, h1, rfl⟩
 ·obtain rfl := Option.some.inj h
  obtain ⟨l, h1, h2, rfl⟩ := hr
  exact ⟨_, _, rfl, l, h1, h2, by rw [Nat.add_assoc]⟩
 ·obtain rfl := Option.some.inj h
  obtain ⟨b, q, rr, rfl, h2⟩ := hr
  exact ⟨_, _, rfl, b, q, rr, by rw [Nat.add_assoc], h2⟩
 ·cases h
def qFieldAddr (P : Program) (E : TE) (L : Nat → Option (SV E)) (T : TypeId) (x : Operand) (f : Nat) {R : Type} (k : SV E → Up E → Option R) : Option R :=
 match opS E L x, fieldOff P T f with
 | some (.v (.one c)), some n => match c.shift n with
  | some c' => k (.v (.one c')) none
  | none => none
 | _, _ => none
theorem qFieldAddr_ok {x : Operand} {T : TypeId} {f : Nat} (ho : o.op = .fieldAddr T x f) (hρ : OpR P E z g L ρ) (h : qFieldAddr P E L T x f k = some r) : Good P E z g nx I H ρ o k r := by
 unfold qFieldAddr at h
 split at h
 ·rename_i c n hs hn
  split at h
  ·rename_i c' hc
   obtain ⟨b, off, hv, hr⟩ := SC.shift_ok hc (hρ x _ hs)
   refine .mk' h (v := .pointer (some ⟨b, off + n, none⟩)) hr fun w' _ => ?_
   unfold execOp
   rw [ho]
   simp only [hv]
   rw [Sem.run_bind, fieldAt_run hn]
   rfl
  ·cases h
 ·cases h
def qStr (op : BinOp) (a b : Str) {R : Type} (k : SV E → Up E → Option R) : Option R :=
 match op with
 | .add => Option.bind (cat a b) fun s => k (.v (.one (.dt .str s))) none
 | .eql => k (.v (.one (.dt .bool (a == b)))) none
 | .neq => k (.v (.one (.dt .bool (!(a == b))))) none
 | .lss => k (.v (.one (.dt .bool (Op.bytesLess a b)))) none
 | .gtr => k (.v (.one (.dt .bool (!(Op.bytesLess a b || a == b))))) none
 | .leq => k (.v (.one (.dt .bool (Op.bytesLess a b || a == b)))) none
 | .geq => k (.v (.one (.dt .bool (!(Op.bytesLess a b))))) none
 | _ => none
theorem run_str_leq {t yt : TypeId} {x y : Operand} {w : World} (ho : o.op = .binOp .leq t x y yt) {a b : Str} (hx : ρ x = S a) (hy : ρ y = S b) :
  (execOp ρ o).run P w = .ok (.value (.bool (Op.bytesLess a b || a == b))) w := by
 unfold execOp
 simp only [ho, hx, hy, S]
 simp only [eqGuard, binOp, Op.stringOp, ByteArray.toList_mk]
 rfl
theorem run_str_geq {t yt : TypeId} {x y : Operand} {w : World} (ho : o.op = .binOp .geq t x y yt) {a b : Str} (hx : ρ x = S a) (hy : ρ y = S b) :
  (execOp ρ o).run P w = .ok (.value (.bool (!(Op.bytesLess a b)))) w := by
 unfold execOp
 simp only [ho, hx, hy, S]
 simp only [eqGuard, binOp, Op.stringOp, ByteArray.toList_mk]
 rfl
theorem qStr_ok {op : BinOp} {t yt : TypeId} {x y : Operand} {a b : Str} (ho : o.op = .binOp op t x y yt) (hx : ρ x = S a) (hy : ρ y = S b) (h : qStr op a b k = some r) : Good P E z g nx I H ρ o k r := by
 unfold qStr at h
 split at h
 ·obtain ⟨s, hs, h⟩ := bind_some h
  exact .mk' h (v := S s) (.str .nil) fun w' _ => run_cat ho hx hy hs
 ·exact .mk' h (.bool .nil) fun w' _ => run_str_eql ho hx hy
 ·exact .mk' h (.bool .nil) fun w' _ => run_str_neq ho hx hy
 ·exact .mk' h (.bool .nil) fun w' _ => run_str_lss ho hx hy
 ·exact .mk' h (.bool .nil) fun w' _ => run_str_gtr ho hx hy
 ·exact .mk' h (.bool .nil) fun w' _ => run_str_leq ho hx hy
 ·exact .mk' h (.bool .nil) fun w' _ => run_str_geq ho hx hy
 ·cases h
def Operand.isC : Operand → Bool
 | .const _ => true
 | _ => false
def qInt (P : Program) (E : TE) (L : Nat → Option (SV E)) (o : Oper) (op : BinOp) (y : Operand) (ka : IntKind) (a : Int) (kb : IntKind) (b : Int) {R : Type} (k : SV E → Up E → Option R) : Option R :=
 match op, Operand.isC y, decide (ka = kb) with
 | .quo, false, true => Option.bind (quoI ka a b) fun n => k (.v (.one (.dt (.int ka) n))) none
 | .rem, false, true => Option.bind (remI a b) fun n => k (.v (.one (.dt (.int ka) n))) none
 | .shl, false, _ => Option.bind (shlI ka a b) fun n => k (.v (.one (.dt (.int ka) n))) none
 | .shr, false, _ => Option.bind (shrI ka a b) fun n => k (.v (.one (.dt (.int ka) n))) none
 | _, _, _ => qPure P E L o k
theorem qInt_ok {op : BinOp} {t yt : TypeId} {x y : Operand} {ka kb : IntKind} {a b : Int} (ho : o.op = .binOp op t x y yt) (hρ : OpR P E z g L ρ) (hx : ρ x = .int ka a) (hy : ρ y = .int kb b) (h : qInt P E L o op y ka a kb b k = some r) : Good P E z g nx I H ρ o k r := by
 unfold qInt at h
 split at h
 ·rename_i hk
  simp only [decide_eq_true_eq] at hk
  subst hk
  obtain ⟨n, hn, h⟩ := bind_some h
  exact .mk' h (v := .int ka n) (.int .nil) fun w' _ => run_quo ho hx hy hn
 ·rename_i hk
  simp only [decide_eq_true_eq] at hk
  subst hk
  obtain ⟨n, hn, h⟩ := bind_some h
  exact .mk' h (v := .int ka n) (.int .nil) fun w' _ => run_rem ho hx hy hn
 ·obtain ⟨n, hn, h⟩ := bind_some h
  exact .mk' h (v := .int ka n) (.int .nil) fun w' _ => run_shl ho hx hy hn
 ·obtain ⟨n, hn, h⟩ := bind_some h
  exact .mk' h (v := .int ka n) (.int .nil) fun w' _ => run_shr ho hx hy hn
 ·exact qPure_ok hρ h
def SC.data (H : Nat → Option (Obj E)) (t : Ty) : SC E → Option (Den E.S t)
 | .dt t' x => if h : t' = t then some (h ▸ x) else none
 | .nils => match t with
  | .sl _ => some []
  | _ => none
 | .own id => match H id with
  | some (.fr e xs) => if h : Ty.sl e = t then some (h ▸ xs) else none
  | _ => none
 | _ => none
theorem SC.data_ok {t : Ty} {c : SC E} {x : Den E.S t} {v : Value} {w : World} (hH : HR P E Bs F0 w0 w z g H) (h : c.data H t = some x) (hr : RC P E z g c v) : RD E z [t] (x, ()) [v] := by
 unfold SC.data at h
 split at h
 ·split at h
  ·rename_i ht
   subst ht
   obtain rfl := Option.some.inj h
   exact hr
  ·cases h
 ·split at h
  ·obtain rfl := Option.some.inj h
   simp only [RC] at hr
   subst hr
   exact RD.sl (xs := []) (cap := 0) (SlF.nil _ _ _ _) (Nat.le_refl _) (rows := []) (fun i x r h => by simp at h) .nil
  ·cases h
 ·split at h
  ·rename_i e xs hi
   split at h
   ·rename_i ht
    subst ht
    obtain rfl := Option.some.inj h
    obtain ⟨l, h1, rfl⟩ := hr
    obtain ⟨l', rows, h2, hn, hc, hs, hcap, hrows⟩ := hH.hold _ _ hi
    rw [h1] at h2; obtain rfl := Option.some.inj h2
    rw [hn]
    rw [hn] at hcap hs
    rw [hc] at hs
    exact RD.sl hs hcap hrows .nil
   ·cases h
  ·cases h
 ·cases h
def dataL (E : TE) (H : Nat → Option (Obj E)) : (ts : List Ty) → List (SC E) → Option (HL E.S ts)
 | [], [] => some ()
 | t :: ts, c :: cs => match c.data H t with
  | none => none
  | some x => match dataL E H ts cs with
   | some h => some (x, h)
   | none => none
 | _, _ => none
theorem dataL_ok {w : World} (hH : HR P E Bs F0 w0 w z g H) : ∀ {ts : List Ty} {cs : List (SC E)} {h : HL E.S ts} {vs : List Value}, dataL E H ts cs = some h → All2 (RC P E z g) cs vs → RD E z ts h vs
 | [], [], h, vs, he, hr => by cases hr; exact .nil
 | t :: ts, c :: cs, h, vs, he, hr => by
  cases hr with
  | cons h1 h2 =>
   simp only [dataL] at he
   split at he
   ·cases he
   ·rename_i x hx
    split at he
    ·rename_i h' hh
     obtain rfl := Option.some.inj he
     exact RD.cons (SC.data_ok hH hx h1) (dataL_ok hH hh h2)
    ·cases he
 | [], c :: cs, h, vs, he, hr => by simp [dataL] at he
 | t :: ts, [], h, vs, he, hr => by simp [dataL] at he
def EqFact (P : Program) (E : TE) (T n : Nat) : Prop := ∀ (d : DecidableEq (E.S n)) (x y : E.S n) (l m : List Value), encH E (E.cs n) (E.un n x) = some l → encH E (E.cs n) (E.un n y) = some m → EqIs P T (.agg l.toArray) (.agg m.toArray) (@decide (x = y) (d x y))
def qEq (E : TE) (H : Nat → Option (Obj E)) (eqs : List (Nat × Nat)) (neg : Bool) (T : TypeId) (l m : List (SC E)) {R : Type} (k : SV E → Up E → Option R) : Option R :=
 match eqs.find? fun p => Nat.beq p.1 T with
 | some p => match dataL E H (E.cs p.2) l, dataL E H (E.cs p.2) m, E.deq p.2 with
  | some h, some h', some d => match encH E (E.cs p.2) h, encH E (E.cs p.2) h' with
   | some _, some _ => match neg with
    | false => k (.v (.one (.dt .bool (@decide (E.bd p.2 h = E.bd p.2 h') (d _ _))))) none
    | true => k (.v (.one (.dt .bool (!(@decide (E.bd p.2 h = E.bd p.2 h') (d _ _)))))) none
   | _, _ => none
  | _, _, _ => none
 | none => none
theorem qEq_ok {eqs : List (Nat × Nat)} {op : BinOp} {neg : Bool} {t yt : TypeId} {x y : Operand} {l m : List (SC E)} (hop : op = bif neg then .neq else .eql) (ho : o.op = .binOp op t x y yt) (heq : ∀ p ∈ eqs, EqFact P E p.1 p.2) (hH : HR P E Bs F0 w0 W z g H)
  (hx : RV P E z g (.v (.agg l)) (ρ x)) (hy : RV P E z g (.v (.agg m)) (ρ y)) (h : qEq E H eqs neg t l m k = some r) : Good P E z g nx I H ρ o k r := by
 unfold qEq at h
 split at h
 ·rename_i p hp
  have hT : p.1 = t := Nat.eq_of_beq_eq_true (by simpa using List.find?_some hp)
  have hf := heq p (List.mem_of_find?_eq_some hp)
  split at h
  ·rename_i hl hm d h1 h2 h3
   split at h
   ·rename_i e1 e2 h4 h5
    obtain ⟨vs, ex, hvx⟩ := hx
    obtain ⟨us, ey, hvy⟩ := hy
    have hrx := dataL_ok hH h1 hvx
    have hry := dataL_ok hH h2 hvy
    obtain rfl := encH_ok hrx h4
    obtain rfl := encH_ok hry h5
    have hE := hf d (E.bd p.2 hl) (E.bd p.2 hm) vs us (by rw [E.un_bd]; exact h4) (by rw [E.un_bd]; exact h5)
    rw [hT] at hE
    cases neg with
    | false =>
     simp only at h
     subst hop
     exact .mk' h (.bool .nil) fun w' _ => run_agg_eql ho ex ey hE
    | true =>
     simp only at h
     subst hop
     exact .mk' h (.bool .nil) fun w' _ => run_agg_neq ho ex ey hE
   ·cases h
  ·cases h
 ·cases h
theorem nilB_some {α R : Type} {xs : List α} {k : Bool → Option R} {r : R} (h : nilB xs k = some r) {b : Bool} (hb : xs ≠ [] → b = false) : k b = some r := by
 cases xs with
 | nil =>
  obtain ⟨h1, h2⟩ := both_some h
  cases b with
  | true => exact h1
  | false => exact h2
 | cons x xs => rw [hb (by simp)]; exact h
theorem run_equalIn_snil (w : World) (d : Nat) (t e : TypeId) (a : Option Addr) (l c : Nat) (h : P.underlying t = some (.slice e)) : (Op.equalIn (d + 1) t (.slice a l c) (.slice none 0 0)).run P w = .ok a.isNone w := by
 cases a <;> simp [Op.equalIn, run_underlying h]
theorem run_equal_snil (w : World) (t e : TypeId) (a : Option Addr) (l c : Nat) (h : P.underlying t = some (.slice e)) : (Op.equal t (.slice a l c) (.slice none 0 0)).run P w = .ok a.isNone w := run_equalIn_snil w 9999 t e a l c h
theorem run_eql_snil (w : World) (t e : TypeId) (a : Option Addr) (l c : Nat) (h : P.underlying t = some (.slice e)) : (binOp .eql t (.slice a l c) (.slice none 0 0)).run P w = .ok (.bool a.isNone) w := by
 simp only [binOp]
 simp [run_equal_snil w t e a l c h]
theorem run_neq_snil (w : World) (t e : TypeId) (a : Option Addr) (l c : Nat) (h : P.underlying t = some (.slice e)) : (binOp .neq t (.slice a l c) (.slice none 0 0)).run P w = .ok (.bool (!a.isNone)) w := by
 simp only [binOp]
 simp [run_equal_snil w t e a l c h]
theorem run_slice_eql {t yt e : TypeId} {x y : Operand} {A : Option Addr} {n cap : Nat} {w : World} (ho : o.op = .binOp .eql t x y yt) (ht : P.underlying t = some (.slice e)) (hx : ρ x = .slice A n cap) (hy : ρ y = .slice none 0 0) :
  (execOp ρ o).run P w = .ok (.value (.bool A.isNone)) w := by
 unfold execOp
 simp only [ho, hx, hy]
 simp [eqGuard, run_eql_snil w t e A n cap ht]
theorem run_slice_neq {t yt e : TypeId} {x y : Operand} {A : Option Addr} {n cap : Nat} {w : World} (ho : o.op = .binOp .neq t x y yt) (ht : P.underlying t = some (.slice e)) (hx : ρ x = .slice A n cap) (hy : ρ y = .slice none 0 0) :
  (execOp ρ o).run P w = .ok (.value (.bool (!A.isNone))) w := by
 unfold execOp
 simp only [ho, hx, hy]
 simp [eqGuard, run_neq_snil w t e A n cap ht]
def qNil0 (P : Program) (E : TE) (H : Nat → Option (Obj E)) (op : BinOp) (T : TypeId) (c : SC E) {R : Type} (k : SV E → Up E → Option R) : Option R :=
 match op, P.underlying T, c with
 | .eql, some (.slice _), .dt (.sl _) xs => nilB xs fun b => k (.v (.one (.dt .bool b))) none
 | .neq, some (.slice _), .dt (.sl _) xs => nilB xs fun b => k (.v (.one (.dt .bool (!b)))) none
 | .eql, some (.slice _), .nils => k (.v (.one (.dt .bool true))) none
 | .neq, some (.slice _), .nils => k (.v (.one (.dt .bool false))) none
 | .eql, some (.slice _), .own id => match H id with
  | some (.row _ _ xs _) => nilB xs fun b => k (.v (.one (.dt .bool b))) none
  | some (.fr _ xs) => nilB xs fun b => k (.v (.one (.dt .bool b))) none
  | _ => none
 | .neq, some (.slice _), .own id => match H id with
  | some (.row _ _ xs _) => nilB xs fun b => k (.v (.one (.dt .bool (!b)))) none
  | some (.fr _ xs) => nilB xs fun b => k (.v (.one (.dt .bool (!b)))) none
  | _ => none
 | _, _, _ => none
theorem own_nil {H : Nat → Option (Obj E)} (hH : HR P E Bs F0 w0 W z g H) {id : Nat} {v : Value} (hr : RC P E z g (.own id) v) : (∀ e t xs foc, H id = some (.row e t xs foc) → ∃ A n cap, v = .slice A n cap ∧ (xs ≠ [] → A.isNone = false)) ∧ ∀ t xs, H id = some (.fr t xs) → ∃ A n cap, v = .slice A n cap ∧ (xs ≠ [] → A.isNone = false) := by
 obtain ⟨l, h1, rfl⟩ := hr
 refine ⟨fun e t xs foc hi => ⟨_, _, _, rfl, fun hx => ?_⟩, fun t xs hi => ⟨_, _, _, rfl, fun hx => ?_⟩⟩
 ·obtain ⟨l', rows, h2, hn, _, hown, _⟩ := hH.hold _ _ hi
  rw [h1] at h2; obtain rfl := Option.some.inj h2
  rcases hown.2 with ⟨_, h3⟩ | ⟨b, cap, cur, h3, _⟩
  ·rw [hn] at h3; exact absurd (List.length_eq_zero_iff.1 h3) hx
  ·injection h3 with h4; rw [h4]; rfl
 ·obtain ⟨l', rows, h2, hn, _, hs, _⟩ := hH.hold _ _ hi
  rw [h1] at h2; obtain rfl := Option.some.inj h2
  have : 0 < l.n := by rw [hn]; exact List.length_pos_iff.2 hx
  obtain ⟨b, off, e, h3, _⟩ := hs.2 this
  rw [e]; rfl
theorem qNil0_ok {op : BinOp} {t yt : TypeId} {x y : Operand} {c : SC E} (ho : o.op = .binOp op t x y yt) (hH : HR P E Bs F0 w0 W z g H) (hx : RC P E z g c (ρ x)) (hy : ρ y = .slice none 0 0) (h : qNil0 P E H op t c k = some r) : Good P E z g nx I H ρ o k r := by
 unfold qNil0 at h
 split at h
 ·rename_i e xs hu
  obtain ⟨A, cap, rows, vs', ev, hs, _⟩ := RD.sl_inv hx
  injection ev with ev _
  refine .mk' (nilB_some h (b := A.isNone) fun hne => ?_) (.bool .nil) fun w' _ => run_slice_eql ho hu ev hy
  obtain ⟨b, off, h3, _⟩ := hs.2 (List.length_pos_iff.2 hne)
  rw [h3]; rfl
 ·rename_i e xs hu
  obtain ⟨A, cap, rows, vs', ev, hs, _⟩ := RD.sl_inv hx
  injection ev with ev _
  refine .mk' (nilB_some h (b := A.isNone) fun hne => ?_) (.bool .nil) fun w' _ => run_slice_neq ho hu ev hy
  obtain ⟨b, off, h3, _⟩ := hs.2 (List.length_pos_iff.2 hne)
  rw [h3]; rfl
 ·rename_i hu
  exact .mk' h (.bool .nil) fun w' _ => run_slice_eql ho hu hx hy
 ·rename_i hu
  exact .mk' h (.bool .nil) fun w' _ => run_slice_neq ho hu hx hy
 ·rename_i id hu
  obtain ⟨h1, h2⟩ := own_nil hH hx
  split at h
  ·rename_i hi
   obtain ⟨A, n, cap, ev, hA⟩ := h1 _ _ _ _ hi
   exact .mk' (nilB_some h hA) (.bool .nil) fun w' _ => run_slice_eql ho hu ev hy
  ·rename_i hi
   obtain ⟨A, n, cap, ev, hA⟩ := h2 _ _ hi
   exact .mk' (nilB_some h hA) (.bool .nil) fun w' _ => run_slice_eql ho hu ev hy
  ·cases h
 ·rename_i id hu
  obtain ⟨h1, h2⟩ := own_nil hH hx
  split at h
  ·rename_i hi
   obtain ⟨A, n, cap, ev, hA⟩ := h1 _ _ _ _ hi
   exact .mk' (nilB_some h hA) (.bool .nil) fun w' _ => run_slice_neq ho hu ev hy
  ·rename_i hi
   obtain ⟨A, n, cap, ev, hA⟩ := h2 _ _ hi
   exact .mk' (nilB_some h hA) (.bool .nil) fun w' _ => run_slice_neq ho hu ev hy
  ·cases h
 ·cases h
def qBin (P : Program) (E : TE) (L : Nat → Option (SV E)) (H : Nat → Option (Obj E)) (eqs : List (Nat × Nat)) (o : Oper) (op : BinOp) (T : TypeId) (x y : Operand) {R : Type} (k : SV E → Up E → Option R) : Option R :=
 match opS E L x, opS E L y with
 | some (.v (.one (.dt (.int ka) a))), some (.v (.one (.dt (.int kb) b))) => qInt P E L o op y ka a kb b k
 | some (.v (.one (.dt .str a))), some (.v (.one (.dt .str b))) => qStr op a b k
 | some (.v (.one (.dt .bool a))), some (.v (.one (.dt .bool b))) => match op, P.underlying T with
  | .eql, some .bool => k (.v (.one (.dt .bool (a == b)))) none
  | .neq, some .bool => k (.v (.one (.dt .bool (!(a == b))))) none
  | _, _ => none
 | some (.v (.agg l)), some (.v (.agg m)) => match op with
  | .eql => qEq E H eqs false T l m k
  | .neq => qEq E H eqs true T l m k
  | _ => none
 | some (.v (.one c)), some (.v (.one .nils)) => qNil0 P E H op T c k
 | _, _ => none
theorem qBin_ok {eqs : List (Nat × Nat)} {op : BinOp} {t yt : TypeId} {x y : Operand} (ho : o.op = .binOp op t x y yt) (heq : ∀ p ∈ eqs, EqFact P E p.1 p.2) (hρ : OpR P E z g L ρ) (hH : HR P E Bs F0 w0 W z g H) (h : qBin P E L H eqs o op t x y k = some r) : Good P E z g nx I H ρ o k r := by
 unfold qBin at h
 split at h
 ·rename_i ka a kb b hx hy
  exact qInt_ok ho hρ (SV.int_ok rfl (hρ x _ hx)) (SV.int_ok rfl (hρ y _ hy)) h
 ·rename_i a b hx hy
  exact qStr_ok ho (SV.str_ok rfl (hρ x _ hx)) (SV.str_ok rfl (hρ y _ hy)) h
 ·rename_i a b hx hy
  have e1 := SV.bool_ok rfl (hρ x _ hx)
  have e2 := SV.bool_ok rfl (hρ y _ hy)
  split at h
  ·rename_i hu
   exact .mk' h (.bool .nil) fun w' _ => run_bool_eql ho hu e1 e2
  ·rename_i hu
   exact .mk' h (.bool .nil) fun w' _ => run_bool_neq ho hu e1 e2
  ·cases h
 ·rename_i l m hx hy
  split at h
  ·exact qEq_ok (neg := false) rfl ho heq hH (hρ x _ hx) (hρ y _ hy) h
  ·exact qEq_ok (neg := true) rfl ho heq hH (hρ x _ hx) (hρ y _ hy) h
  ·cases h
 ·rename_i c hx hy
  exact qNil0_ok ho hH (hρ x _ hx) (hρ y _ hy) h
 ·cases h
def qIndex (P : Program) (E : TE) (L : Nat → Option (SV E)) (T : TypeId) (x i : Operand) {R : Type} (k : SV E → Up E → Option R) : Option R :=
 match opS E L x, opS E L i, P.underlying T with
 | some (.v (.one (.dt .str s))), some (.v (.one (.dt (.int _) n))), some .string => Option.bind (byteI s n) fun b => k (.v (.one (.dt (.int .u8) b))) none
 | _, _, _ => none
theorem qIndex_ok {T : TypeId} {x i : Operand} (ho : o.op = .index T x i) (hρ : OpR P E z g L ρ) (h : qIndex P E L T x i k = some r) : Good P E z g nx I H ρ o k r := by
 unfold qIndex at h
 split at h
 ·rename_i s ki n hx hi hu
  obtain ⟨b, hb, h⟩ := bind_some h
  exact .mk' h (v := .int .u8 b) (.int .nil) fun w' _ => run_byteI ho hu (SV.str_ok rfl (hρ x _ hx)) (SV.int_ok rfl (hρ i _ hi)) hb
 ·cases h
end
end Rt
end Go
namespace Go
namespace Rt
open Go.RowKit
section
variable {P : Program} {E : TE}
end
end Rt
end Go
namespace Go
namespace Rt
open Go.RowKit
section
variable {P : Program} {E : TE} {z : Fz} {g : Ga} {nx : Nat}
variable {L : Nat → Option (SV E)} {H : Nat → Option (Obj E)} {ρ : Operand → Value} {W w0 : World} {I : World → Prop} {o : Oper} {R : Type} {k : SV E → Up E → Option R} {r : R} {Bs : List Nat} {F0 : Nat → Prop}
structure Li (E : TE) where
 t : Ty
 xs : List (Den E.S t)
def SC.fro (H : Nat → Option (Obj E)) : SC E → Option (Li E)
 | .dt (.sl t) xs => some ⟨t, xs⟩
 | .own id => match H id with
  | some (.fr t xs) => some ⟨t, xs⟩
  | _ => none
 | _ => none
theorem SlF.stand {c n : Nat} {A : Option Addr} {rows : List (List Value)} {w : World} (h : SlF z.F c A n rows z.w) (hz : z.In w) : SlF z.F c A n rows w :=
 ⟨h.1, fun hn => by
  obtain ⟨b, off, e, hb, hc⟩ := h.2 hn
  exact ⟨b, off, e, hb, fun i r hr => ⟨(hc i r hr).1, fun j u hu => (World.cell?_of_block (w := z.w) (hz b hb).2).trans ((hc i r hr).2 j u hu)⟩⟩⟩
theorem SC.fro_ok {c : SC E} {v : Value} {l : Li E} {w : World} (hH : HR P E Bs F0 w0 w z g H) (h : c.fro H = some l) (hr : RC P E z g c v) :
  ∃ A cap rows, v = .slice A l.xs.length cap ∧ SlF z.F (E.size l.t) A l.xs.length rows z.w ∧ l.xs.length ≤ cap ∧ Rows E z l.t l.xs rows := by
 unfold SC.fro at h
 split at h
 ·obtain rfl := Option.some.inj h
  obtain ⟨A, cap, rows, vs', e, hs, hc, hrw, _⟩ := RD.sl_inv (hr : RD E z _ _ [v])
  simp at e
  exact ⟨A, cap, rows, e.1, hs, hc, hrw⟩
 ·split at h
  ·rename_i t xs hi
   obtain rfl := Option.some.inj h
   obtain ⟨lo, h1, rfl⟩ := hr
   obtain ⟨l', rows, h2, hn, hc, hs, hcap, hrows⟩ := hH.hold _ _ hi
   rw [h1] at h2; obtain rfl := Option.some.inj h2
   rw [hn] at hs hcap ⊢
   rw [hc] at hs
   exact ⟨_, _, rows, rfl, hs, hcap, hrows⟩
  ·cases h
 ·cases h
def qIndexAddr (P : Program) (E : TE) (L : Nat → Option (SV E)) (H : Nat → Option (Obj E)) (nx : Nat) (T : TypeId) (x i : Operand) {R : Type} (k : SV E → Up E → Option R) : Option R :=
 match opS E L x, opS E L i, P.underlying T with
 | some (.v (.one c)), some (.v (.one (.dt (.int _) n))), some (.slice e) => match c.fro H with
  | some l => match sizeV P e with
   | some s => match Nat.beq s (E.size l.t) with
    | true => Option.bind (getI l.xs n) fun y => k (.v (.one (.elf l.t y 0))) none
    | false => none
   | none => none
  | none => match c with
   | .own id => match H id with
    | some (.row e' t xs foc) => match sizeV P e with
     | some s => match Nat.beq s (E.size t) with
      | true => Option.bind (getI xs n) fun y => k (.v (.one (.elo id nx n 0))) (some (id, .row e' t xs ((nx, n, y) :: foc)))
      | false => none
     | none => none
    | _ => none
   | _ => none
 | _, _, _ => none
theorem qIndexAddr_ok {T : TypeId} {x i : Operand} (ho : o.op = .indexAddr T x i) (hnx : g nx = none) (hρ : OpR P E z g L ρ) (hH : HR P E Bs F0 w0 W z g H) (hI : ∀ w', I w' → Stands z g H W w') (h : qIndexAddr P E L H nx T x i k = some r) : Good P E z g nx I H ρ o k r := by
 unfold qIndexAddr at h
 split at h
 ·rename_i c ki n e hx hi hu
  have hv := hρ x _ hx
  have hn := SV.int_ok rfl (hρ i _ hi)
  split at h
  ·rename_i l hl
   split at h
   ·rename_i s hs
    split at h
    ·rename_i hb
     obtain rfl := Nat.eq_of_beq_eq_true hb
     obtain ⟨y, hy, h⟩ := bind_some h
     obtain ⟨A, cap, rows, ev, hsl, hcap, hrows⟩ := SC.fro_ok hH hl hv
     obtain ⟨h0, hyx, hlt⟩ := getI_some hy
     have hil : n.toNat < rows.length := by rw [hsl.1]; exact hlt
     obtain ⟨b, off, rfl, hF, hcell⟩ := hsl.2 (by omega)
     refine .mk' h (v := .pointer (some ⟨b, off + n.toNat * E.size l.t, none⟩)) ⟨b, off + n.toNat * E.size l.t, _, by rw [Nat.add_zero], hF, hrows n.toNat y _ hyx (List.getElem?_eq_getElem hil), fun j u hu => (hcell n.toNat _ (List.getElem?_eq_getElem hil)).2 j u hu⟩ fun w' hw' => ?_
     obtain ⟨b', off', e', hrun⟩ := run_indexAddr (P := P) ho hu hs ev hn (hsl.stand (hI w' hw').1) rfl hy
     simp only [Option.some.injEq, Addr.mk.injEq] at e'
     obtain ⟨rfl, rfl, _⟩ := e'
     exact hrun
    ·cases h
   ·cases h
  ·split at h
   ·rename_i id _
    split at h
    ·rename_i e' t xs foc hi'
     split at h
     ·rename_i s hs
      split at h
      ·rename_i hb
       obtain rfl := Nat.eq_of_beq_eq_true hb
       obtain ⟨y, hy, h⟩ := bind_some h
       obtain ⟨lo, h1, ev⟩ := hv
       obtain ⟨h0, hyx, hlt⟩ := getI_some hy
       have hh := hH.hold _ _ hi'
       obtain ⟨l', rows, h2, hn2, hc, hown, hlen, hrl, hrows, hfoc⟩ := hh
       rw [h1] at h2; obtain rfl := Option.some.inj h2
       have hsl := row_reads (w := W) (e := e') (cap := lo.cap) ⟨hown, hlen, hrl⟩
       obtain ⟨b, off, hA, _, _⟩ := hsl.2 (by omega)
       have hle : g.Le (g.put nx ⟨none, off + n.toNat * lo.c, 0, 0, b, n⟩) := Ga.le_put hnx
       refine ⟨_, .pointer (some ⟨b, off + n.toNat * lo.c, none⟩), _, _, h, hle, fun i hi => Ga.put_ne _ _ hi, ⟨_, Ga.put_self _ _ _, rfl, by rw [Nat.add_zero]⟩, fun w' hw' => ?_, ?_⟩
       ·have hw := (hI w' hw').hold hH _ _ hi'
        obtain ⟨l2, rows2, h3, hn3, hc3, hown3, hlen3, hrl3, _, _⟩ := hw
        rw [h1] at h3; obtain rfl := Option.some.inj h3
        have hsl3 := row_reads (w := w') (e := e') (cap := lo.cap) ⟨hown3, hlen3, hrl3⟩
        rw [hc] at hsl3
        obtain ⟨b', off', e2, hrun⟩ := run_indexAddr (P := P) ho hu hs ev hn hsl3 hn2.symm hy
        rw [hA] at e2
        simp only [Option.some.injEq, Addr.mk.injEq] at e2
        obtain ⟨rfl, rfl, _⟩ := e2
        rw [hc]
        exact hrun
       ·refine ⟨_, hi', fun z w hq => ?_, fun q => ?_⟩
        ·obtain ⟨l3, rows3, h4, hn4, hc4, hown4, hlen4, hrl4, hrows4, hfoc4⟩ := hq
         rw [h1] at h4; obtain rfl := Option.some.inj h4
         refine ⟨_, rows3, hle _ _ h1, hn4, hc4, hown4, hlen4, hrl4, hrows4, fun p hp => ?_⟩
         rcases List.mem_cons.1 hp with rfl | hp
         ·exact ⟨hy, _, off, Ga.put_self _ _ _, hA, rfl, rfl⟩
         ·obtain ⟨h7, lq, o2, h8, h9⟩ := hfoc4 p hp
          exact ⟨h7, lq, o2, hle _ _ h8, h9⟩
        ·constructor
         ·rintro ⟨l3, a3, h4, h5, h6⟩
          rw [hle _ _ h1] at h4; obtain rfl := Option.some.inj h4
          exact ⟨_, a3, h1, h5, h6⟩
         ·rintro ⟨l3, a3, h4, h5, h6⟩
          exact ⟨_, a3, hle _ _ h4, h5, h6⟩
      ·cases h
     ·cases h
    ·cases h
   ·cases h
 ·cases h
def aimA {R : Type} (i : Int) : Nat → Nat → (Nat → Option R) → Option R
 | _, 0, _ => none
 | j, n + 1, k => bif i == (j : Int) then k j else aimA i (j + 1) n k
theorem aimA_some {R : Type} {i : Int} {r : R} {k : Nat → Option R} : ∀ {j n : Nat}, aimA i j n k = some r → ∃ m : Nat, i = (m : Int) ∧ m < j + n ∧ k m = some r
 | _, 0, h => by cases h
 | j, n + 1, h => by
  unfold aimA at h
  cases hb : i == (j : Int) with
  | true =>
   rw [hb] at h
   exact ⟨j, by simpa using hb, by omega, h⟩
  | false =>
   rw [hb] at h
   obtain ⟨m, h1, h2, h3⟩ := aimA_some h
   exact ⟨m, h1, by omega, h3⟩
def qIndexArr (P : Program) (E : TE) (L : Nat → Option (SV E)) (m : Nat) (e : TypeId) (x i : Operand) {R : Type} (k : SV E → Up E → Option R) : Option R :=
 match i with
 | .const (.int _ (.ofNat j)) => match opS E L x, sizeV P e with
  | some (.v (.one c)), some s => match Nat.blt j m, c.shift (j * s) with
   | true, some c' => k (.v (.one c')) none
   | _, _ => none
  | _, _ => none
 | i => match opS E L x, opS E L i, sizeV P e with
  | some (.v (.one c)), some (.v (.one (.dt (.int _) n))), some s => aimA n 0 m fun j => match c.shift (j * s) with
   | some c' => k (.v (.one c')) none
   | none => none
  | _, _, _ => none
theorem qIndexArr_ok {T : TypeId} {m : Nat} {e : TypeId} {x i : Operand} (ho : o.op = .indexAddr T x i) (hu : P.underlying T = some (.array m e)) (hρ : OpR P E z g L ρ) (h : qIndexArr P E L m e x i k = some r) : Good P E z g nx I H ρ o k r := by
 have goal : ∀ {c c' : SC E} {ki : IntKind} {j s : Nat}, opS E L x = some (.v (.one c)) → sizeV P e = some s → j < m → ρ i = .int ki (.ofNat j) → c.shift (j * s) = some c' → k (.v (.one c')) none = some r → Good P E z g nx I H ρ o k r := by
  intro c c' ki j s hx hs hj hn hc h
  obtain ⟨b, off, hv, hr⟩ := SC.shift_ok hc (hρ x _ hx)
  refine .mk' h (v := .pointer (some ⟨b, off + j * s, none⟩)) hr fun w' _ => ?_
  exact run_indexArr (i := .ofNat j) (u := ()) ho hu hs hv hn (by unfold boundI; rw [if_pos ⟨Int.natCast_nonneg j, by simpa using hj⟩])
 unfold qIndexArr at h
 split at h
 ·rename_i ki j
  split at h
  ·rename_i c s hx hs
   split at h
   ·rename_i c' hb hc
    exact goal hx hs (by simpa using hb) (SV.int_ok rfl (hρ (.const (.int ki (.ofNat j))) (.v (.one (.dt (.int ki) (.ofNat j)))) rfl)) hc h
   ·cases h
  ·cases h
 ·split at h
  ·rename_i c y ki n s hx hi hs
   obtain ⟨j, rfl, hj, h⟩ := aimA_some h
   split at h
   ·rename_i c' hc
    exact goal hx hs (by omega) (SV.int_ok rfl (hρ _ _ hi)) hc h
   ·cases h
  ·cases h
def bndS (E : TE) (L : Nat → Option (SV E)) : Option Operand → Option (Option Int)
 | none => some none
 | some x => match opS E L x with
  | some (.v (.one (.dt (.int _) n))) => some (some n)
  | _ => none
theorem bndS_ok {lo : Option Operand} {l : Option Int} (hρ : OpR P E z g L ρ) (h : bndS E L lo = some l) : boundIs ρ lo l := by
 unfold bndS at h
 split at h
 ·obtain rfl := Option.some.inj h; trivial
 ·split at h
  ·rename_i x y ki n hx
   obtain rfl := Option.some.inj h
   exact ⟨ki, SV.int_ok rfl (hρ x _ hx)⟩
  ·cases h
def hiD (n : Int) : Option Int → Int
 | some h => h
 | none => n
theorem hiD_eq (n : Int) (h : Option Int) : hiD n h = h.getD n := by cases h <;> rfl
def qSlice (P : Program) (E : TE) (L : Nat → Option (SV E)) (H : Nat → Option (Obj E)) (T : TypeId) (x : Operand) (lo hi : Option Operand) {R : Type} (k : SV E → Up E → Option R) : Option R :=
 match opS E L x, bndS E L lo, bndS E L hi, P.underlying T with
 | some (.v (.one (.dt .str s))), some l, some h, some .string => Option.bind (subI s (hiD 0 l) (hiD (s.length : Int) h)) fun y => k (.v (.one (.dt .str y))) none
 | some (.v (.one c)), some l, some h, some (.slice e) => match c.fro H with
  | some li => match sizeV P e with
   | some s => match Nat.beq s (E.size li.t) with
    | true => Option.bind (subI li.xs (hiD 0 l) (hiD (li.xs.length : Int) h)) fun y => k (.v (.one (.dt (.sl li.t) y))) none
    | false => none
   | none => none
  | none => match c, l, h with
   | .own id, none, some n => match H id with
    | some (.row _ _ xs _) => match sizeV P e with
     | some _ => Option.bind (subI xs 0 n) fun _ => k (.v (.one (.pre id n))) none
     | none => none
    | _ => none
   | .own id, some n, none => match H id with
    | some (.row _ t xs _) => match sizeV P e with
     | some s => match Nat.beq s (E.size t) with
      | true => Option.bind (subI xs n (xs.length : Int)) fun _ => k (.v (.one (.suf id n))) none
      | false => none
     | none => none
    | _ => none
   | _, _, _ => none
 | _, _, _, _ => none
theorem rows_sub {t : Ty} {xs : List (Den E.S t)} {rows : List (List Value)} (h : Rows E z t xs rows) (a b : Nat) : Rows E z t ((xs.take b).drop a) ((rows.take b).drop a) := by
 intro i x r hx hr
 rw [List.getElem?_drop, List.getElem?_take] at hx hr
 split at hx
 ·rename_i hc
  rw [if_pos hc] at hr
  exact h _ x r hx hr
 ·cases hx
theorem qSlice_ok {T : TypeId} {x : Operand} {lo hi : Option Operand} (ho : o.op = .slice T x lo hi none) (hρ : OpR P E z g L ρ) (hH : HR P E Bs F0 w0 W z g H) (h : qSlice P E L H T x lo hi k = some r) : Good P E z g nx I H ρ o k r := by
 unfold qSlice at h
 split at h
 ·rename_i s l hh hx hl hhi hu
  obtain ⟨y, hy, h⟩ := bind_some h
  rw [hiD_eq, hiD_eq] at hy
  exact .mk' h (v := S y) (.str .nil) fun w' _ => run_str_sub ho hu (SV.str_ok rfl (hρ x _ hx)) (bndS_ok hρ hl) (bndS_ok hρ hhi) hy
 ·rename_i c l hh e hx hl hhi hu
  have hv := hρ x _ hx
  split at h
  ·rename_i li hli
   split at h
   ·rename_i s hs
    split at h
    ·rename_i hb
     obtain rfl := Nat.eq_of_beq_eq_true hb
     obtain ⟨y, hy, h⟩ := bind_some h
     rw [hiD_eq, hiD_eq] at hy
     obtain ⟨A, cap, rows, ev, hsl, hcap, hrows⟩ := SC.fro_ok hH hli hv
     obtain ⟨h0, h1, h2, rfl⟩ := subI_some hy
     have hcut := SlF.cut hsl hcap (lo := (l.getD 0).toNat) (hi := (hh.getD li.xs.length).toNat) (by omega) (by omega)
     have hlen : ((li.xs.take (hh.getD (li.xs.length : Int)).toNat).drop (l.getD 0).toNat).length = (hh.getD (li.xs.length : Int)).toNat - (l.getD 0).toNat := by
      simp; omega
     refine .mk' h (v := .slice (cutA A (E.size li.t) (l.getD 0).toNat cap) ((hh.getD (li.xs.length : Int)).toNat - (l.getD 0).toNat) (cap - (l.getD 0).toNat)) ?_ fun w' _ => run_cut ho hu hs ev (bndS_ok hρ hl) (bndS_ok hρ hhi) h0 h1 (by omega)
     have hsl' : SlF z.F (E.size li.t) (cutA A (E.size li.t) (l.getD 0).toNat cap) ((li.xs.take (hh.getD (li.xs.length : Int)).toNat).drop (l.getD 0).toNat).length ((rows.take (hh.getD (li.xs.length : Int)).toNat).drop (l.getD 0).toNat) z.w := by rw [hlen]; exact hcut
     have := RD.sl (E := E) hsl' (cap := cap - (l.getD 0).toNat) (by rw [hlen]; omega) (rows_sub hrows _ _) (.nil (h := ()))
     rw [hlen] at this
     exact this
    ·cases h
   ·cases h
  ·split at h
   ·rename_i id n _
    split at h
    ·rename_i e' t xs foc hi'
     split at h
     ·rename_i s hs
      obtain ⟨y, hy, h⟩ := bind_some h
      obtain ⟨h0, h1, h2, _⟩ := subI_some hy
      obtain ⟨lo', h3, ev⟩ := hv
      obtain ⟨l', rows, h4, hn, hc, hown, _⟩ := hH.hold _ _ hi'
      rw [h3] at h4; obtain rfl := Option.some.inj h4
      have hcap := (Own.cap_le hown).1
      refine .mk' h (v := .slice lo'.A n.toNat lo'.cap) ⟨lo', h3, rfl⟩ fun w' _ => ?_
      have := run_cut (P := P) (w := w') (c := s) ho hu hs ev (bndS_ok hρ hl) (bndS_ok hρ hhi) (Int.le_refl 0) (show (0 : Int) ≤ (some n).getD _ from h1) (show (some n).getD _ ≤ _ from by simp only [Option.getD_some]; omega)
      simp only [Option.getD_none, Option.getD_some, Int.toNat_zero, Nat.sub_zero, cutA] at this
      rw [this]
      split
      ·rename_i hz
       cases hA : lo'.A <;> simp_all
      ·cases hA : lo'.A with
       | none => rfl
       | some a => simp [Addr.add]
     ·cases h
    ·cases h
   ·rename_i id n _
    split at h
    ·rename_i e' t xs foc hi'
     split at h
     ·rename_i s hs
      split at h
      ·rename_i hb
       obtain rfl := Nat.eq_of_beq_eq_true hb
       obtain ⟨y, hy, h⟩ := bind_some h
       obtain ⟨h0, h1, h2, _⟩ := subI_some hy
       obtain ⟨lo', h3, ev⟩ := hv
       obtain ⟨l', rows, h4, hn, hc, hown, _⟩ := hH.hold _ _ hi'
       rw [h3] at h4; obtain rfl := Option.some.inj h4
       have hcap := (Own.cap_le hown).1
       refine .mk' h (v := .slice (cutA lo'.A lo'.c n.toNat lo'.cap) (lo'.n - n.toNat) (lo'.cap - n.toNat)) ⟨lo', h3, by omega, rfl⟩ fun w' _ => ?_
       have := run_cut (P := P) (w := w') (c := E.size t) ho hu hs ev (bndS_ok hρ hl) (bndS_ok hρ hhi) (show (0 : Int) ≤ (some n).getD 0 from h0) (show (some n).getD 0 ≤ (none : Option Int).getD _ from by simp only [Option.getD_some, Option.getD_none]; omega) (show (none : Option Int).getD _ ≤ _ from by simp only [Option.getD_none]; omega)
       simp only [Option.getD_none, Option.getD_some, Int.toNat_natCast] at this
       rw [this, hc]
      ·cases h
     ·cases h
    ·cases h
   ·cases h
 ·cases h
def SC.len? (H : Nat → Option (Obj E)) : SC E → Option Int
 | .dt (.sl _) xs => some (xs.length : Int)
 | .own id => match H id with
  | some (.row _ _ xs _) => some (xs.length : Int)
  | some (.fr _ xs) => some (xs.length : Int)
  | _ => none
 | .nils => some 0
 | _ => none
theorem SC.len_ok {c : SC E} {v : Value} {n : Int} {w : World} (hH : HR P E Bs F0 w0 w z g H) (h : c.len? H = some n) (hr : RC P E z g c v) : ∃ A m cap, v = .slice A m cap ∧ n = (m : Int) := by
 unfold SC.len? at h
 split at h
 ·obtain rfl := Option.some.inj h
  obtain ⟨A, cap, rows, vs', e, _⟩ := RD.sl_inv (hr : RD E z _ _ [v])
  simp at e
  exact ⟨A, _, cap, e.1, rfl⟩
 ·split at h
  ·rename_i hi
   obtain rfl := Option.some.inj h
   obtain ⟨lo, h1, rfl⟩ := hr
   obtain ⟨l', rows, h2, hn, _⟩ := hH.hold _ _ hi
   rw [h1] at h2; obtain rfl := Option.some.inj h2
   exact ⟨_, _, _, rfl, by rw [hn]⟩
  ·rename_i hi
   obtain rfl := Option.some.inj h
   obtain ⟨lo, h1, rfl⟩ := hr
   obtain ⟨l', rows, h2, hn, _⟩ := hH.hold _ _ hi
   rw [h1] at h2; obtain rfl := Option.some.inj h2
   exact ⟨_, _, _, rfl, by rw [hn]⟩
  ·cases h
 ·obtain rfl := Option.some.inj h
  simp only [RC] at hr
  subst hr
  exact ⟨none, 0, 0, rfl, rfl⟩
 ·cases h
theorem op_builtin {b : Builtin} {xs : Array Operand} {ats : Array TypeId} (ho : o.op = .call { callee := .builtin b, args := xs, argTypes := ats }) : ∃ cs, execOp ρ o = builtin b ats o.type cs (xs.map ρ) := by
 obtain ⟨dst, op, ty', pos, after, guard⟩ := o
 simp only at ho
 subst ho
 exact ⟨_, BigFrame.execOp_builtin ρ dst b xs ats ty' pos after guard⟩
def qLen (P : Program) (E : TE) (L : Nat → Option (SV E)) (H : Nat → Option (Obj E)) (T : TypeId) (x : Operand) {R : Type} (k : SV E → Up E → Option R) : Option R :=
 match opS E L x, P.underlying T with
 | some (.v (.one (.dt .str s))), some .string => k (.v (.one (.dt (.int .i64) (s.length : Int)))) none
 | some (.v (.one c)), some (.slice _) => match c.len? H with
  | some n => k (.v (.one (.dt (.int .i64) n))) none
  | none => none
 | _, _ => none
theorem qLen_ok {T : TypeId} {x : Operand} (ho : o.op = .call { callee := .builtin .len, args := #[x], argTypes := #[T] }) (hρ : OpR P E z g L ρ) (hH : HR P E Bs F0 w0 W z g H) (h : qLen P E L H T x k = some r) : Good P E z g nx I H ρ o k r := by
 unfold qLen at h
 obtain ⟨cs, hop⟩ := op_builtin (ρ := ρ) ho
 rw [BigFrame.builtin_len] at hop
 split at h
 ·rename_i s hx hu
  have hs := SV.str_ok rfl (hρ x _ hx)
  refine .mk' h (v := .int .i64 (s.length : Int)) (.int .nil) fun w' _ => ?_
  rw [hop]
  simp [hs, S, Builtin.len_, run_underlying hu, size_mk, goInt]
 ·rename_i c e hx hu
  split at h
  ·rename_i n hn
   obtain ⟨A, m, cap, ev, rfl⟩ := SC.len_ok hH hn (hρ x _ hx)
   refine .mk' h (v := .int .i64 (m : Int)) (.int .nil) fun w' _ => ?_
   rw [hop]
   simp [ev, Builtin.len_, run_underlying hu, goInt]
  ·cases h
 ·cases h
def zeroC (P : Program) (E : TE) (T : TypeId) : Option (List (SC E)) := match zeroOf P T with
 | some zs => constCs E zs
 | none => none
def spliceC (l : List (SC E)) (off : Nat) (cs : List (SC E)) : List (SC E) := l.take off ++ cs ++ l.drop (off + cs.length)
theorem splice_rel {l cs : List (SC E)} {vs us : List Value} (off : Nat) (h : All2 (RC P E z g) l vs) (h' : All2 (RC P E z g) cs us) : All2 (RC P E z g) (spliceC l off cs) (splice vs off us) := by
 unfold spliceC splice
 rw [h'.len]
 exact ((h.take off).append h').append (h.drop _)
def buildC (P : Program) (E : TE) (L : Nat → Option (SV E)) (fs : Array Field) : List (Nat × Operand) → List (SC E) → Option (List (SC E))
 | [], l => some l
 | (i, x) :: rest, l => match fs[i]?, opS E L x with
  | some q, some s => match sizeV P q.type, s.cells? with
   | some n, some cs => match Nat.beq n cs.length && Nat.ble (q.offset + cs.length) l.length with
    | true => buildC P E L fs rest (spliceC l q.offset cs)
    | false => none
   | _, _ => none
  | _, _ => none
theorem fold_splice : ∀ (us : List Value) (k off : Nat) (cells : Array Value), off + k + us.length ≤ cells.size →
  ((us.zipIdx k).foldl (fun cs (p : Value × Nat) => cs.setIfInBounds (off + p.2) p.1) cells).toList = splice cells.toList (off + k) us
 | [], k, off, cells, _ => by simp [splice]
 | u :: us, k, off, cells, h => by
  simp only [List.zipIdx_cons, List.foldl_cons]
  have hl : (u :: us).length = us.length + 1 := rfl
  rw [fold_splice us (k + 1) off _ (by simp; omega)]
  simp only [splice, Array.toList_setIfInBounds]
  have hsz : cells.toList.length = cells.size := Array.length_toList
  apply List.ext_getElem?
  intro j
  simp only [List.getElem?_append, List.getElem?_take, List.getElem?_drop, List.getElem?_set, List.length_take, List.length_append, List.length_set, List.length_cons, List.getElem?_cons]
  repeat' split
  all_goals first
   | rfl
   | omega
   | (congr 1; omega)
   | (exfalso; omega)
   | (rename_i a b; simp_all; done)
   | skip
theorem build_fill {fs : Array Field} {places : Array (Nat × Nat)} (hp : ∀ (i : Nat) (q : Field) (n : Nat), fs[i]? = some q → sizeV P q.type = some n → places[i]? = some (q.offset, n)) (hρ : OpR P E z g L ρ) :
  ∀ {ps : List (Nat × Operand)} {l l' : List (SC E)} {cells : Array Value}, buildC P E L fs ps l = some l' → All2 (RC P E z g) l cells.toList →
   ∃ cells', Instr.fill (fun i => places[i]?) cells (ps.map fun p => (p.1, ρ p.2)) = some cells' ∧ All2 (RC P E z g) l' cells'.toList
 | [], l, l', cells, h, hr => by
  simp only [buildC, Option.some.injEq] at h
  subst h
  exact ⟨cells, rfl, hr⟩
 | (i, x) :: rest, l, l', cells, h, hr => by
  simp only [buildC] at h
  split at h
  ·rename_i q s hq hs
   split at h
   ·rename_i n cs hn hc
    split at h
    ·rename_i hb
     simp only [Bool.and_eq_true] at hb
     have hb1 := Nat.eq_of_beq_eq_true hb.1
     have hb2 := Nat.le_of_ble_eq_true hb.2
     have hcs := SV.cells_ok hc (hρ x _ hs)
     have hlen : cs.length = (ρ x).cells.size := by rw [hcs.len, Array.length_toList]
     have hll : l.length = cells.size := by rw [hr.len, Array.length_toList]
     have hsz : (ρ x).cells.size = n := by omega
     have hfit : q.offset + (ρ x).cells.size ≤ cells.size := by omega
     have hnext := build_fill hp hρ h (cells := ((ρ x).cells.zipIdx.foldl (fun cs (p : Value × Nat) => cs.setIfInBounds (q.offset + p.2) p.1) cells)) (by
      have e : (ρ x).cells.zipIdx.foldl (fun cs (p : Value × Nat) => cs.setIfInBounds (q.offset + p.2) p.1) cells = (((ρ x).cells.toList.zipIdx 0).foldl (fun cs (p : Value × Nat) => cs.setIfInBounds (q.offset + p.2) p.1) cells) := by
       rw [← Array.foldl_toList, Array.toList_zipIdx]
      rw [e, fold_splice _ 0 q.offset cells (by rw [Array.length_toList]; omega), Nat.add_zero]
      exact splice_rel _ hr hcs)
     obtain ⟨cells', h1, h2⟩ := hnext
     refine ⟨cells', ?_, h2⟩
     simp only [List.map_cons, Instr.fill, hp i q n hq hn]
     rw [if_neg (by simp; omega)]
     exact h1
    ·cases h
   ·cases h
  ·cases h
def sizesB (P : Program) : List Field → Bool
 | [] => true
 | q :: fs => (match sizeV P q.type with | some _ => true | none => false) && sizesB P fs
def placesOf (P : Program) (fs : List Field) : List (Nat × Nat) := fs.map fun q => (q.offset, (sizeV P q.type).getD 0)
theorem place_run {q : Field} {n : Nat} (hn : sizeV P q.type = some n) (w : World) : (Functor.map (Prod.mk q.offset) (sizeOf q.type)).run P w = .ok (q.offset, n) w := by
 cases hi : P.info? q.type with
 | none => simp [sizeV, hi] at hn
 | some inf =>
  have : inf.size = n := by simpa [sizeV, hi] using hn
  simp [sizeOf, typeInfo, hi, this]
theorem places_run (w : World) : ∀ {fs : List Field}, sizesB P fs = true → (fs.mapM fun f => Functor.map (Prod.mk f.offset) (sizeOf f.type)).run P w = .ok (placesOf P fs) w
 | [], _ => rfl
 | q :: fs, h => by
  simp only [sizesB, Bool.and_eq_true] at h
  have h1 := places_run w h.2
  cases hn : sizeV P q.type with
  | none => rw [hn] at h; simp at h
  | some n =>
   have h2 := place_run (P := P) hn w
   rw [List.mapM_cons, Sem.run_bind, h2]
   simp only [Result.andThen_ok, Sem.run_bind, h1, Sem.run_pure]
   simp [placesOf, hn]
theorem places_get {fs : Array Field} (i : Nat) (q : Field) (n : Nat) (hq : fs[i]? = some q) (hn : sizeV P q.type = some n) : (placesOf P fs.toList).toArray[i]? = some (q.offset, n) := by
 simp [placesOf, hq, hn]
def buildS (E : TE) (L : Nat → Option (SV E)) (s : Nat) : List (Nat × Operand) → List (SC E) → Option (List (SC E))
 | [], l => some l
 | (i, x) :: rest, l => match opS E L x with
  | some v => match v.cells? with
   | some cs => match Nat.beq s cs.length && Nat.ble (i * s + cs.length) l.length with
    | true => buildS E L s rest (spliceC l (i * s) cs)
    | false => none
   | none => none
  | none => none
theorem buildS_fill {s : Nat} (hρ : OpR P E z g L ρ) : ∀ {ps : List (Nat × Operand)} {l l' : List (SC E)} {cells : Array Value}, buildS E L s ps l = some l' → All2 (RC P E z g) l cells.toList →
   ∃ cells', Instr.fill (fun i => some (i * s, s)) cells (ps.map fun p => (p.1, ρ p.2)) = some cells' ∧ All2 (RC P E z g) l' cells'.toList
 | [], l, l', cells, h, hr => by
  simp only [buildS, Option.some.injEq] at h
  subst h
  exact ⟨cells, rfl, hr⟩
 | (i, x) :: rest, l, l', cells, h, hr => by
  simp only [buildS] at h
  split at h
  ·rename_i v hv
   split at h
   ·rename_i cs hc
    split at h
    ·rename_i hb
     simp only [Bool.and_eq_true] at hb
     have hb1 := Nat.eq_of_beq_eq_true hb.1
     have hb2 := Nat.le_of_ble_eq_true hb.2
     have hcs := SV.cells_ok hc (hρ x _ hv)
     have hlen : cs.length = (ρ x).cells.size := by rw [hcs.len, Array.length_toList]
     have hll : l.length = cells.size := by rw [hr.len, Array.length_toList]
     have hnext := buildS_fill hρ h (cells := ((ρ x).cells.zipIdx.foldl (fun cs (p : Value × Nat) => cs.setIfInBounds (i * s + p.2) p.1) cells)) (by
      have e : (ρ x).cells.zipIdx.foldl (fun cs (p : Value × Nat) => cs.setIfInBounds (i * s + p.2) p.1) cells = (((ρ x).cells.toList.zipIdx 0).foldl (fun cs (p : Value × Nat) => cs.setIfInBounds (i * s + p.2) p.1) cells) := by
       rw [← Array.foldl_toList, Array.toList_zipIdx]
      rw [e, fold_splice _ 0 (i * s) cells (by rw [Array.length_toList]; omega), Nat.add_zero]
      exact splice_rel _ hr hcs)
     obtain ⟨cells', h1, h2⟩ := hnext
     refine ⟨cells', ?_, h2⟩
     simp only [List.map_cons, Instr.fill]
     rw [if_neg (by simp; omega)]
     exact h1
    ·cases h
   ·cases h
  ·cases h
def qBuildArr (P : Program) (E : TE) (L : Nat → Option (SV E)) (T e : TypeId) (ps : Array (Nat × Operand)) {R : Type} (k : SV E → Up E → Option R) : Option R :=
 match zeroC P E T, sizeV P e with
 | some l, some s => match buildS E L s ps.toList l with
  | some l' => k (.v (.agg l')) none
  | none => none
 | _, _ => none
def qBuild (P : Program) (E : TE) (L : Nat → Option (SV E)) (T : TypeId) (ps : Array (Nat × Operand)) {R : Type} (k : SV E → Up E → Option R) : Option R :=
 match P.underlying T with
 | some (.struct fs) => match zeroC P E T with
  | some l => match sizesB P fs.toList, buildC P E L fs ps.toList l with
   | true, some l' => k (.v (.agg l')) none
   | _, _ => none
  | none => none
 | some (.array _ e) => qBuildArr P E L T e ps k
 | _ => none
theorem qBuildArr_ok {T e : TypeId} {m : Nat} {ps : Array (Nat × Operand)} (ho : o.op = .build T ps) (hu : P.underlying T = some (.array m e)) (hρ : OpR P E z g L ρ) (h : qBuildArr P E L T e ps k = some r) : Good P E z g nx I H ρ o k r := by
 unfold qBuildArr at h
 split at h
 ·rename_i l s hz hs
  split at h
  ·rename_i l' hb
   unfold zeroC at hz
   split at hz
   ·rename_i zs hzs
    have hzr : All2 (RC P E z g) l zs := constCs_ok hz
    obtain ⟨cells', hf, hr⟩ := buildS_fill hρ hb (cells := zs.toArray) hzr
    refine .mk' h (v := .agg cells') ⟨cells'.toList, rfl, hr⟩ fun w' _ => ?_
    unfold zeroOf at hzs
    split at hzs
    ·rename_i inf hi
     split at hzs
     ·rename_i zv hzv
      obtain rfl := Option.some.inj hzs
      unfold sizeV at hs
      cases hq : P.info? e with
      | none => simp [hq] at hs
      | some inf2 =>
       have hs' : inf2.size = s := by simpa [hq] using hs
       unfold execOp
       rw [ho]
       simp only [Instr.build]
       simp [Sem.run_bind, zeroValue, typeInfo, hi, hzv, run_underlying hu, sizeOf, hq, hs']
       simp only [Array.toArray_toList] at hf
       rw [hf]
       rfl
     ·cases hzs
    ·cases hzs
   ·cases hz
  ·cases h
 ·cases h
theorem qBuild_ok {T : TypeId} {ps : Array (Nat × Operand)} (ho : o.op = .build T ps) (hρ : OpR P E z g L ρ) (h : qBuild P E L T ps k = some r) : Good P E z g nx I H ρ o k r := by
 unfold qBuild at h
 split at h
 ·rename_i fs hu
  split at h
  case h_2 => cases h
  rename_i l hz
  split at h
  ·rename_i l' hsz hb
   unfold zeroC at hz
   split at hz
   ·rename_i zs hzs
    have hzr : All2 (RC P E z g) l zs := constCs_ok hz
    obtain ⟨cells', hf, hr⟩ := build_fill (places := (placesOf P fs.toList).toArray) places_get hρ hb (cells := zs.toArray) hzr
    refine .mk' h (v := .agg cells') ⟨cells'.toList, rfl, hr⟩ fun w' _ => ?_
    have hpl := places_run (P := P) w' hsz
    unfold zeroOf at hzs
    split at hzs
    ·rename_i inf hi
     split at hzs
     ·rename_i zv hzv
      obtain rfl := Option.some.inj hzs
      have e1 : (fs.mapM fun f => Functor.map (Prod.mk f.offset) (sizeOf f.type)).run P w' = .ok (placesOf P fs.toList).toArray w' := by
       have e2 : (fs.mapM fun f => Functor.map (Prod.mk f.offset) (sizeOf f.type) : Sem (Array (Nat × Nat))) = (Functor.map List.toArray (fs.toList.mapM fun f => Functor.map (Prod.mk f.offset) (sizeOf f.type))) := by
        rw [← List.mapM_toArray]
       rw [e2, map_eq_pure_bind, Sem.run_bind, hpl]
       rfl
      unfold execOp
      rw [ho]
      simp only [Instr.build]
      simp [Sem.run_bind, zeroValue, typeInfo, hi, hzv, run_underlying hu, e1]
      simp only [Array.toArray_toList, List.getElem?_toArray] at hf
      rw [hf]
      rfl
     ·cases hzs
    ·cases hzs
   ·cases hz
  ·cases h
 ·rename_i m e hu; exact qBuildArr_ok ho hu hρ h
 ·cases h
def capsC (E : TE) (L : Nat → Option (SV E)) : List Operand → Option (List Nat)
 | [] => some []
 | x :: l => match opS E L x with
  | some (.v (.one (.ptr id 0))) => match capsC E L l with
   | some ids => some (id :: ids)
   | none => none
  | _ => none
theorem capsC_ok (hρ : OpR P E z g L ρ) : ∀ {xs : List Operand} {ids : List Nat}, capsC E L xs = some ids → All2 (fun id u => ∃ l, g id = some l ∧ u = Value.pointer (some ⟨l.b, 0, none⟩)) ids (xs.map ρ)
 | [], ids, h => by simp only [capsC, Option.some.injEq] at h; subst h; exact .nil
 | x :: l, ids, h => by
  simp only [capsC] at h
  split at h
  ·rename_i id hx
   split at h
   ·rename_i ids' hl
    obtain rfl := Option.some.inj h
    exact .cons (hρ x _ hx) (capsC_ok hρ hl)
   ·cases h
  ·cases h
def qMakeFunc (E : TE) (L : Nat → Option (SV E)) (f : Fn) (first caps : Array Operand) {R : Type} (k : SV E → Up E → Option R) : Option R :=
 match f, first.toList, capsC E L caps.toList with
 | .func f, [], some ids => k (.v (.one (.clo f ids))) none
 | _, _, _ => none
theorem qMakeFunc_ok {f : Fn} {first caps : Array Operand} (ho : o.op = .makeFunc f first caps) (hρ : OpR P E z g L ρ) (h : qMakeFunc E L f first caps k = some r) : Good P E z g nx I H ρ o k r := by
 unfold qMakeFunc at h
 split at h
 ·rename_i f ids hf hc
  have hcr := capsC_ok hρ hc
  refine .mk' h (v := .func (.func f) #[] (caps.toList.map ρ).toArray) ⟨_, rfl, hcr⟩ fun w' _ => ?_
  unfold execOp
  rw [ho]
  have : first = #[] := by cases first; simp at hf; subst hf; rfl
  subst this
  simp only [Instr.makeFunc, Sem.run_bind, Sem.run_pure, Result.andThen_ok]
  rw [show caps.map ρ = (caps.toList.map ρ).toArray by rw [← List.map_toArray]]
  simp
 ·cases h
theorem rows_int {kk : IntKind} : ∀ {xs : List Int} {rows : List (List Value)}, Rows E z (.int kk) xs rows → rows.length = xs.length → rows = xs.map fun b => [Value.int kk b] := by
 intro xs rows h hl
 apply List.ext_getElem?
 intro i
 rw [List.getElem?_map]
 by_cases hi : i < xs.length
 ·rw [List.getElem?_eq_getElem hi, List.getElem?_eq_getElem (by omega)]
  have := h i xs[i] _ (List.getElem?_eq_getElem hi) (List.getElem?_eq_getElem (by omega : i < rows.length))
  obtain ⟨vs', e, hn⟩ := RD.int_inv (this : RD E z [.int kk] (xs[i], ()) _)
  rw [hn.nil_inv] at e
  rw [e]; rfl
 ·rw [List.getElem?_eq_none (by omega), List.getElem?_eq_none (by omega)]; rfl
def SC.bytes (H : Nat → Option (Obj E)) : SC E → Option (List Int)
 | .dt (.sl (.int .u8)) xs => some xs
 | .own id => match H id with
  | some (.fr (.int .u8) xs) => some xs
  | some (.row _ (.int .u8) xs _) => some xs
  | _ => none
 | .nils => some []
 | _ => none
theorem SC.bytes_ok {c : SC E} {v : Value} {xs : List Int} {w' : World} (hH : HR P E Bs F0 w0 W z g H) (h : c.bytes H = some xs) (hr : RC P E z g c v) (hw' : Stands z g H W w') :
  ∃ A n cap F, v = .slice A n cap ∧ SlF F 1 A n (xs.map fun b => [Value.int .u8 b]) w' := by
 unfold SC.bytes at h
 split at h
 ·rename_i ys
  obtain rfl := Option.some.inj h
  obtain ⟨A, cap, rows, ev, hsl, hcap, hrows⟩ := SC.fro_ok (c := .dt (.sl (.int .u8)) ys) hH rfl hr
  rw [rows_int hrows hsl.1] at hsl
  exact ⟨A, _, cap, _, ev, hsl.stand hw'.1⟩
 ·rename_i id
  split at h
  ·rename_i ys hi
   obtain rfl := Option.some.inj h
   obtain ⟨A, cap, rows, ev, hsl, hcap, hrows⟩ := SC.fro_ok (c := .own id) (l := ⟨.int .u8, ys⟩) hH (by simp only [SC.fro, hi]) hr
   rw [rows_int hrows hsl.1] at hsl
   exact ⟨A, _, cap, _, ev, hsl.stand hw'.1⟩
  ·rename_i e ys foc hi
   obtain rfl := Option.some.inj h
   obtain ⟨l, h1, rfl⟩ := hr
   obtain ⟨l2, rows2, h3, hn3, hc3, hown3, hlen3, hrl3, hrows3, _⟩ := hw'.hold hH _ _ hi
   rw [h1] at h3; obtain rfl := Option.some.inj h3
   have hsl3 := row_reads (w := w') (e := e) (cap := l.cap) ⟨hown3, hlen3, hrl3⟩
   rw [rows_int hrows3 (by rw [hlen3, hn3])] at hsl3
   have hc1 : l.c = 1 := hc3
   rw [hc1] at hsl3
   exact ⟨_, _, _, _, rfl, hsl3⟩
  ·cases h
 ·obtain rfl := Option.some.inj h
  simp only [RC] at hr
  subst hr
  exact ⟨none, 0, 0, fun _ => False, rfl, SlF.nil _ _ _ _⟩
 ·cases h
def qConv (P : Program) (E : TE) (L : Nat → Option (SV E)) (H : Nat → Option (Obj E)) (o : Oper) (src dst : TypeId) (x : Operand) {R : Type} (k : SV E → Up E → Option R) : Option R :=
 match opS E L x, P.underlying dst with
 | some (.v (.one (.dt (.int _) _))), some (.int _) => qPure P E L o k
 | some (.v (.one (.dt .str s))), some .string => match P.underlying src with
  | some .string => k (.v (.one (.dt .str s))) none
  | _ => none
 | some (.v (.one c)), some .string => match P.underlying src with
  | some (.slice e) => match P.underlying e, c.bytes H with
   | some (.int .u8), some xs => k (.v (.one (.dt .str (bytesS xs)))) none
   | _, _ => none
  | _ => none
 | _, _ => none
theorem qConv_ok {src dst : TypeId} {x : Operand} (ho : o.op = .convert src dst x) (hρ : OpR P E z g L ρ) (hH : HR P E Bs F0 w0 W z g H) (hI : ∀ w', I w' → Stands z g H W w') (h : qConv P E L H o src dst x k = some r) : Good P E z g nx I H ρ o k r := by
 unfold qConv at h
 split at h
 ·exact qPure_ok hρ h
 ·rename_i s hx hd
  split at h
  ·rename_i hs
   have e := SV.str_ok rfl (hρ x _ hx)
   refine .mk' h (v := S s) (.str .nil) fun w' _ => ?_
   unfold execOp
   rw [ho]
   simp [e, S, convert, run_underlying hs, run_underlying hd]
  ·cases h
 ·rename_i c hx hd
  split at h
  ·rename_i e hs
   split at h
   ·rename_i xs he hb
    refine .mk' h (v := S (bytesS xs)) (.str .nil) fun w' hw' => ?_
    obtain ⟨A, n, cap, F, ev, hsl⟩ := SC.bytes_ok hH hb (hρ x _ hx) (hI w' hw')
    exact run_bytes_str ho hs he hd ev hsl
   ·cases h
  ·cases h
 ·cases h
noncomputable def qOp (P : Program) (E : TE) (eqs : List (Nat × Nat)) (L : Nat → Option (SV E)) (H : Nat → Option (Obj E)) (nx : Nat) (o : Oper) {R : Type} (k : SV E → Up E → Option R) : Option R :=
 match o.op with
 | .move x => qMove E L x k
 | .assign x => qMove E L x k
 | .nilCheck x => qNil E L x k
 | .extract x i => qExtract E L x i k
 | .field T x f => qField P E L T x f k
 | .load T x => qLoad P E L H T x k
 | .fieldAddr T x f => qFieldAddr P E L T x f k
 | .unOp _ _ _ => qPure P E L o k
 | .binOp op T x y _ => qBin P E L H eqs o op T x y k
 | .index T x i => qIndex P E L T x i k
 | .indexAddr T x i => match P.underlying T with
  | some (.array m e) => qIndexArr P E L m e x i k
  | _ => qIndexAddr P E L H nx T x i k
 | .slice T x lo hi none => qSlice P E L H T x lo hi k
 | .convert src dst x => qConv P E L H o src dst x k
 | .build T ps => qBuild P E L T ps k
 | .makeFunc f first caps => qMakeFunc E L f first caps k
 | .call { callee := .builtin .len, args := ⟨[x]⟩, argTypes := ⟨[T]⟩ } => qLen P E L H T x k
 | .call { callee := .builtin .max, args := _, argTypes := _ } => qPure P E L o k
 | .call { callee := .builtin .min, args := _, argTypes := _ } => qPure P E L o k
 | _ => none
theorem qOp_ok {eqs : List (Nat × Nat)} (heq : ∀ p ∈ eqs, EqFact P E p.1 p.2) (hnx : g nx = none) (hρ : OpR P E z g L ρ) (hH : HR P E Bs F0 w0 W z g H) (hI : ∀ w', I w' → Stands z g H W w') (h : qOp P E eqs L H nx o k = some r) : Good P E z g nx I H ρ o k r := by
 unfold qOp at h
 split at h
 case h_1 x ho => exact qMove_ok (.inl ho) hρ h
 case h_2 x ho => exact qMove_ok (.inr ho) hρ h
 case h_3 x ho => exact qNil_ok ho hρ h
 case h_4 x i ho => exact qExtract_ok ho hρ h
 case h_5 T x f ho => exact qField_ok ho hρ h
 case h_6 T x ho => exact qLoad_ok ho hρ hH hI h
 case h_7 T x f ho => exact qFieldAddr_ok ho hρ h
 case h_8 => exact qPure_ok hρ h
 case h_9 op T x y yt ho => exact qBin_ok ho heq hρ hH h
 case h_10 T x i ho => exact qIndex_ok ho hρ h
 case h_11 T x i ho =>
  split at h
  ·rename_i m e hu; exact qIndexArr_ok ho hu hρ h
  ·exact qIndexAddr_ok ho hnx hρ hH hI h
 case h_12 T x lo hi ho => exact qSlice_ok ho hρ hH h
 case h_13 src dst x ho => exact qConv_ok ho hρ hH hI h
 case h_14 T ps ho => exact qBuild_ok ho hρ h
 case h_15 f first caps ho => exact qMakeFunc_ok ho hρ h
 case h_16 x T ho => exact qLen_ok ho hρ hH h
 case h_17 => exact qPure_ok hρ h
 case h_18 => exact qPure_ok hρ h
 case h_19 => cases h
end
end Rt
end Go
namespace Go
namespace Rt
open Go.RowKit
section
variable {P : Program} {E : TE} {z : Fz} {g : Ga} {nx : Nat}
variable {L : Nat → Option (SV E)} {H : Nat → Option (Obj E)} {ρ : Operand → Value} {w w0 : World} {o : Oper} {R : Type} {r : R} {Bs : List Nat} {F0 : Nat → Prop}
abbrev Chs (E : TE) := List (Nat × Option (Obj E))
def upH (H : Nat → Option (Obj E)) : Chs E → Nat → Option (Obj E)
 | [], j => H j
 | (i, o) :: l, j => match Nat.beq j i with
  | true => o
  | false => upH H l j
theorem upH_append (H : Nat → Option (Obj E)) : ∀ (l m : Chs E), upH (upH H m) l = upH H (l ++ m)
 | [], m => rfl
 | (i, o) :: l, m => by
  funext j
  simp only [upH, List.cons_append]
  rw [upH_append H l m]
theorem upH_one {i : Nat} {p q : Obj E} {j : Nat} (h : upH H [(i, some p)] j = some q) : (j = i ∧ q = p) ∨ (j ≠ i ∧ H j = some q) := by
 simp only [upH] at h
 split at h
 ·rename_i hb
  exact .inl ⟨Nat.eq_of_beq_eq_true hb, (Option.some.inj h).symm⟩
 ·rename_i hb
  exact .inr ⟨beq_false hb, h⟩
theorem upH_two {i m : Nat} {p q : Obj E} {j : Nat} (h : upH H [(i, some p), (m, none)] j = some q) : (j = i ∧ q = p) ∨ (j ≠ i ∧ j ≠ m ∧ H j = some q) := by
 simp only [upH] at h
 split at h
 ·rename_i hb
  exact .inl ⟨Nat.eq_of_beq_eq_true hb, (Option.some.inj h).symm⟩
 ·rename_i hb
  split at h
  ·cases h
  ·rename_i hb2
   exact .inr ⟨beq_false hb, beq_false hb2, h⟩
def Fresh (g : Ga) (nx : Nat) : Prop := ∀ i, nx ≤ i → g i = none
theorem Fresh.put (h : Fresh g nx) (l : Loc) : Fresh (g.put nx l) (nx + 1) := fun i hi => by
 rw [Ga.put_ne _ _ (by omega)]; exact h i (by omega)
theorem Fresh.succ (h : Fresh g nx) : Fresh g (nx + 1) := fun i hi => h i (by omega)
theorem Fresh.self (h : Fresh g nx) : g nx = none := h nx (Nat.le_refl _)
structure TurnsTo (P : Program) (E : TE) (Bs : List Nat) (F0 : Nat → Prop) (w0 w : World) (z : Fz) (g : Ga) (nx : Nat) (H : Nat → Option (Obj E)) (ρ : Operand → Value) (o : Oper) (ex : Bool) (s : Option (SV E)) (u : Chs E) (z' : Fz) (g' : Ga) (w' : World) (n : Next) : Prop where
 run : (execOp ρ o).run P w = .ok n w'
 val : match s with | some sv => ∃ v, n = .value v ∧ RV P E z' g' sv v | none => n = .skip
 le : z.Le z'
 leg : g.Le g'
 fresh : Fresh g' (nx + 1)
 hr : HR P E Bs F0 w0 w' z' g' (upH H u)
 ext : ex = true → Ext w w'
def Turns (P : Program) (E : TE) (Bs : List Nat) (F0 : Nat → Prop) (w0 w : World) (z : Fz) (g : Ga) (nx : Nat) (H : Nat → Option (Obj E)) (ρ : Operand → Value) (o : Oper) (ex : Bool) {R : Type} (k : Option (SV E) → Chs E → Option R) (r : R) : Prop :=
 ∃ s u z' g' w' n, k s u = some r ∧ TurnsTo P E Bs F0 w0 w z g nx H ρ o ex s u z' g' w' n
variable {k : Option (SV E) → Chs E → Option R}
def frz1 (H : Nat → Option (Obj E)) : SC E → Chs E
 | .own id => match H id with
  | some (.row _ t xs _) => [(id, some (.fr t xs))]
  | _ => []
 | _ => []
theorem frz1_ok (h : HR P E Bs F0 w0 w z g H) (c : SC E) : ∃ z', z.Le z' ∧ HR P E Bs F0 w0 w z' g (upH H (frz1 H c)) := by
 unfold frz1
 split
 ·split
  ·rename_i e t xs foc hi
   exact ⟨_, h.fz.grow_le _, h.freeze hi fun j q hj => upH_one hj⟩
  ·exact ⟨z, Fz.Le.refl z, h⟩
 ·exact ⟨z, Fz.Le.refl z, h⟩
def frzL (H : Nat → Option (Obj E)) : List (SC E) → Chs E
 | [] => []
 | c :: l => frz1 (upH H (frzL H l)) c ++ frzL H l
theorem frzL_ok (h : HR P E Bs F0 w0 w z g H) : ∀ (l : List (SC E)), ∃ z', z.Le z' ∧ HR P E Bs F0 w0 w z' g (upH H (frzL H l))
 | [] => ⟨z, Fz.Le.refl z, h⟩
 | c :: l => by
  obtain ⟨z1, h1, h2⟩ := frzL_ok h l
  obtain ⟨z2, h3, h4⟩ := frz1_ok h2 c
  rw [upH_append] at h4
  exact ⟨z2, h1.trans h3, h4⟩
theorem ObjR.box_new {T : TypeId} {cs : List (SC E)} {vs : List Value} (hnx : g nx = none) (hcs : All2 (RC P E z g) cs vs) :
  ObjR P E z (g.put nx ⟨none, 0, 0, 0, w.heap.size, 0⟩) (w.alloc (.cells vs.toArray T)) nx (.box T cs) := by
 refine ⟨_, vs, Ga.put_self _ _ _, ?_, hcs.mono fun _ _ h => RC.le h (Fz.Le.refl z) (Ga.le_put hnx)⟩
 show (w.heap.push _)[w.heap.size]? = _
 simp
theorem HR.box_new {T : TypeId} {cs : List (SC E)} {vs : List Value} (h : HR P E Bs F0 w0 w z g H) (hnx : g nx = none) (hcs : All2 (RC P E z g) cs vs) :
  HR P E Bs F0 w0 (w.alloc (.cells vs.toArray T)) z (g.put nx ⟨none, 0, 0, 0, w.heap.size, 0⟩) (upH H [(nx, some (.box T cs))]) := by
 refine h.add (Ext.one w _) hnx (ObjR.box_new hnx hcs) (fun k hk => ?_) fun j p hj => upH_one hj
 obtain ⟨l, h1, rfl⟩ := hk
 rw [Ga.put_self] at h1
 obtain rfl := Option.some.inj h1
 exact Nat.le_refl _
def lBox (E : TE) (L : Nat → Option (SV E)) (nx : Nat) (T : TypeId) (x : Operand) {R : Type} (k : Option (SV E) → Chs E → Option R) : Option R :=
 match opS E L x with
 | some s => match s.cells? with
  | some cs => k (some (.v (.one (.ptr nx 0)))) [(nx, some (.box T cs))]
  | none => none
 | none => none
theorem lBox_ok {T : TypeId} {x : Operand} (ho : o.op = .box T x) (hnx : Fresh g nx) (hρ : OpR P E z g L ρ) (hH : HR P E Bs F0 w0 w z g H) (h : lBox E L nx T x k = some r) : Turns P E Bs F0 w0 w z g nx H ρ o true k r := by
 unfold lBox at h
 split at h
 ·rename_i s hs
  split at h
  ·rename_i cs hc
   have hcs := SV.cells_ok hc (hρ x _ hs)
   have hrun := run_box (P := P) (w := w) ho (rfl : ρ x = ρ x)
   have hb := hH.box_new (T := T) hnx.self hcs
   rw [Array.toArray_toList] at hb
   exact ⟨_, _, z, _, _, _, h, ⟨hrun, ⟨_, rfl, _, Ga.put_self _ _ _, rfl⟩, Fz.Le.refl z, Ga.le_put hnx.self, hnx.put _, hb, fun _ => Ext.one w _⟩⟩
  ·cases h
 ·cases h
def lAlloc (P : Program) (E : TE) (nx : Nat) (T : TypeId) {R : Type} (k : Option (SV E) → Chs E → Option R) : Option R :=
 match zeroC P E T with
 | some cs => k (some (.v (.one (.ptr nx 0)))) [(nx, some (.box T cs))]
 | none => none
theorem zeroC_ok {T : TypeId} {cs : List (SC E)} (h : zeroC P E T = some cs) : ∃ zs, zeroOf P T = some zs ∧ All2 (RC P E z g) cs zs := by
 unfold zeroC at h
 split at h
 ·rename_i zs hz
  exact ⟨zs, hz, constCs_ok h⟩
 ·cases h
theorem lAlloc_ok {T : TypeId} (ho : o.op = .alloc T) (hnx : Fresh g nx) (hH : HR P E Bs F0 w0 w z g H) (h : lAlloc P E nx T k = some r) : Turns P E Bs F0 w0 w z g nx H ρ o true k r := by
 unfold lAlloc at h
 split at h
 ·rename_i cs hc
  obtain ⟨zs, hz, hcs⟩ := zeroC_ok (z := z) (g := g) hc
  have hrun := run_alloc (P := P) (w := w) (ρ := ρ) ho hz
  exact ⟨_, _, z, _, _, _, h, ⟨hrun, ⟨_, rfl, _, Ga.put_self _ _ _, rfl⟩, Fz.Le.refl z, Ga.le_put hnx.self, hnx.put _, hH.box_new (T := T) hnx.self hcs, fun _ => Ext.one w _⟩⟩
 ·cases h
theorem Sep.single {L : List Nat} {x : Res} (hx : x.holds w) (hL : ∀ k, x.fp k → k ∈ L) : Sep L w w [x] :=
 ⟨Chg.of_below (Below.refl _ _), fun r hr => by obtain rfl := List.mem_singleton.1 hr; exact hx, fun r hr _ k hk => by obtain rfl := List.mem_singleton.1 hr; exact .inr (hL k hk), .cons (fun _ h => nomatch h) .nil⟩
def lStore (P : Program) (E : TE) (L : Nat → Option (SV E)) (H : Nat → Option (Obj E)) (T : TypeId) (x y : Operand) {R : Type} (k : Option (SV E) → Chs E → Option R) : Option R :=
 match opS E L x, opS E L y with
 | some (.v (.one (.ptr id off))), some s => match H id, s.cells?, sizeV P T with
  | some (.box T' cs), some ys, some n => match Nat.beq n ys.length && Nat.ble (off + ys.length) cs.length with
   | true => k none [(id, some (.box T' (spliceC cs off ys)))]
   | false => none
  | _, _, _ => none
 | some (.v (.one (.elo id q _ off))), some s => match s.cells?, sizeV P T with
  | some ys, some n => match upH H (frzL H ys) id with
   | some (.row e t xs foc) => match foc.find? fun p => Nat.beq p.1 q with
    | some p => match Nat.beq n ys.length && Nat.ble (off + ys.length) (E.size t), dataL E (upH H (frzL H ys)) (E.flat t) (spliceC (E.cells t p.2.2) off ys) with
     | true, some h => k none ((id, some (.row e t (xs.set p.2.1.toNat (E.ufl t h)) [(q, p.2.1, E.ufl t h)])) :: frzL H ys)
     | _, _ => none
    | none => none
   | _ => none
  | _, _ => none
 | _, _ => none
theorem set_rows {t : Ty} {xs : List (Den E.S t)} {rows : List (List Value)} {y : Den E.S t} {r' : List Value} (h : Rows E z t xs rows) (i : Nat) (hr : RD E z (E.flat t) (E.fl t y) r') : Rows E z t (xs.set i y) (rows.set i r') := by
 intro j x r hx hr2
 rw [List.getElem?_set] at hx hr2
 by_cases hij : i = j
 ·rw [if_pos hij] at hx hr2
  split at hx
  ·split at hr2
   ·obtain rfl := Option.some.inj hx
    obtain rfl := Option.some.inj hr2
    exact hr
   ·cases hr2
  ·cases hx
 ·rw [if_neg hij] at hx hr2
  exact h j x r hx hr2
theorem lStore_ok {T : TypeId} {x y : Operand} (ho : o.op = .store T x y) (hnx : Fresh g nx) (hρ : OpR P E z g L ρ) (hH : HR P E Bs F0 w0 w z g H) (h : lStore P E L H T x y k = some r) : Turns P E Bs F0 w0 w z g nx H ρ o false k r := by
 unfold lStore at h
 split at h
 ·rename_i id off s hx hy
  split at h
  ·rename_i T' cs ys n hi hc hn
   split at h
   ·rename_i hb
    simp only [Bool.and_eq_true] at hb
    have hb1 := Nat.eq_of_beq_eq_true hb.1
    have hb2 := Nat.le_of_ble_eq_true hb.2
    obtain ⟨l, h1, ev⟩ := hρ x _ hx
    obtain ⟨l', vs, h2, h3, h4⟩ := hH.hold _ _ hi
    rw [h1] at h2; obtain rfl := Option.some.inj h2
    have hys := SV.cells_ok hc (hρ y _ hy)
    have hl1 : ys.length = (ρ y).cells.size := by rw [hys.len, Array.length_toList]
    have hl2 := h4.len
    have hrun := run_store_row (P := P) (w := w) ho ev (rfl : ρ y = ρ y) h3 (by rw [hn]; congr 1; omega) (by apply Nat.ble_eq_true_of_le; omega) (RC.cells hys)
    refine ⟨none, _, z, g, _, _, h, ⟨hrun, rfl, Fz.Le.refl z, Ga.Le.refl g, hnx.succ, ?_, fun h => by cases h⟩⟩
    refine hH.turn (Ga.Le.refl g) (i := id) (i' := id) (C := fun k => k = l.b) (fun k hk => ⟨_, hi, l, h1, hk⟩) (setRow_grow w _ _) (fun k _ hk => setRow_else w _ k _ hk) (o' := .box T' (spliceC cs off ys)) ?_ (fun k hk => ?_) fun j p hj => ?_
    ·exact ⟨l, _, h1, setRow_at w _ _ _ T' h3, splice_rel off h4 hys⟩
    ·obtain ⟨l2, h5, rfl⟩ := hk
     rw [h1] at h5; obtain rfl := Option.some.inj h5
     exact .inl rfl
    ·rcases upH_one hj with ⟨rfl, rfl⟩ | ⟨h5, h6⟩
     ·exact .inl ⟨rfl, rfl⟩
     ·exact .inr ⟨h5, .inl h5, h6⟩
   ·cases h
  ·cases h
 ·rename_i id q ii off s hx hy
  split at h
  ·rename_i ys n hc hn
   split at h
   ·rename_i e t xs foc hi
    split at h
    ·rename_i p hp
     split at h
     ·rename_i hd hb hdl
      simp only [Bool.and_eq_true] at hb
      have hb1 := Nat.eq_of_beq_eq_true hb.1
      have hb2 := Nat.le_of_ble_eq_true hb.2
      obtain ⟨z', hz, hH'⟩ := frzL_ok hH ys
      have hpi : p.1 = q := Nat.eq_of_beq_eq_true (by simpa using List.find?_some hp)
      obtain ⟨lq, h1, _, ev⟩ := hρ x _ hx
      obtain ⟨lo, rows, h2, hln, hlc, hown, hlen, hrl, hrows, hfoc⟩ := hH'.hold _ _ hi
      obtain ⟨hg, lq', off2, h3, hA, hq, hix⟩ := hfoc p (List.mem_of_find?_eq_some hp)
      rw [hpi, h1] at h3; obtain rfl := Option.some.inj h3
      obtain ⟨_, hxp, hlt⟩ := getI_some hg
      have hil : p.2.1.toNat < rows.length := by rw [hlen, hln]; exact hlt
      have hrow := hrows p.2.1.toNat p.2.2 _ hxp (List.getElem?_eq_getElem hil)
      have hys := SV.cells_ok hc ((hρ y _ hy).le hz (Ga.Le.refl g))
      have hl1 : ys.length = (ρ y).cells.size := by rw [hys.len, Array.length_toList]
      have hsp := splice_rel off (cells_rd.1 hrow) hys
      have hnew := dataL_ok hH' hdl hsp
      have hS := Sep.single (L := [lq.b]) (x := .row e lo.c lo.A lo.n lo.cap rows) ⟨hown, hlen, hrl⟩ (fun k hk => by
       obtain ⟨a, ha, rfl⟩ := hk
       rw [hA] at ha; obtain rfl := Option.some.inj ha
       simp)
      obtain ⟨w', hrun, hS', hgrow, hoth⟩ := run_store_elem (P := P) (k := 0) (j := off) ho ev (rfl : ρ y = ρ y) hS rfl hA (List.getElem?_eq_getElem hil) (by rw [hq]) (by rw [hn]; congr 1; omega) (by apply Nat.ble_eq_true_of_le; rw [hlc]; omega) (RC.cells hys) rfl
      have hh := hS'.hold (.row e lo.c lo.A lo.n lo.cap (rows.set p.2.1.toNat (splice rows[p.2.1.toNat] off (ρ y).cells.toList))) (by simp)
      obtain ⟨hown', hlen', hrl'⟩ := hh
      rw [← E.fl_ufl t hd] at hnew
      have hset := set_rows hrows p.2.1.toNat hnew
      refine ⟨none, _, z', g, w', _, h, ⟨hrun, rfl, hz, Ga.Le.refl g, hnx.succ, ?_, fun h => by cases h⟩⟩
      have hup : upH H ((id, some (.row e t (xs.set p.2.1.toNat (E.ufl t hd)) [(q, p.2.1, E.ufl t hd)])) :: frzL H ys) = upH (upH H (frzL H ys)) [(id, some (.row e t (xs.set p.2.1.toNat (E.ufl t hd)) [(q, p.2.1, E.ufl t hd)]))] := by
       rw [upH_append]; rfl
      rw [hup]
      refine hH'.turn (Ga.Le.refl g) (i := id) (i' := id) (C := fun k => k = lq.b) (fun k hk => ⟨_, hi, lo, _, h2, hA, hk⟩) hgrow (fun k _ hk => hoth k hk) (o' := .row e t (xs.set p.2.1.toNat (E.ufl t hd)) [(q, p.2.1, E.ufl t hd)]) ?_ (fun k hk => ?_) fun j p' hj => ?_
      ·refine ⟨lo, _, h2, by rw [List.length_set]; exact hln, hlc, hown', hlen', hrl', hset, fun p' hp' => ?_⟩
       obtain rfl := List.mem_singleton.1 hp'
       refine ⟨?_, lq, off2, h1, hA, hq, hix⟩
       unfold getI
       rw [if_pos (getI_some hg).1, List.getElem?_set, if_pos rfl, if_pos hlt]
      ·obtain ⟨l2, a2, h5, h6, rfl⟩ := hk
       rw [h2] at h5; obtain rfl := Option.some.inj h5
       rw [hA] at h6; obtain rfl := Option.some.inj h6
       exact .inl rfl
      ·rcases upH_one hj with ⟨rfl, rfl⟩ | ⟨h5, h6⟩
       ·exact .inl ⟨rfl, rfl⟩
       ·exact .inr ⟨h5, .inl h5, h6⟩
     ·cases h
    ·cases h
   ·cases h
  ·cases h
 ·cases h
end
end Rt
end Go
namespace Go
namespace Rt
open Go.RowKit
section
variable {P : Program} {E : TE} {z : Fz} {g : Ga} {nx : Nat}
variable {L : Nat → Option (SV E)} {H : Nat → Option (Obj E)} {ρ : Operand → Value} {w w0 : World} {o : Oper} {R : Type} {r : R} {Bs : List Nat} {F0 : Nat → Prop}
variable {k : Option (SV E) → Chs E → Option R}
def castL {t t' : Ty} (h : t' = t) (xs : List (Den E.S t')) : List (Den E.S t) := h ▸ xs
def SC.rdT (H : Nat → Option (Obj E)) (t : Ty) : SC E → Option (List (Den E.S t))
 | .dt (.sl t') xs => if h : t' = t then some (castL h xs) else none
 | .own id => match H id with
  | some (.row _ t' xs _) => if h : t' = t then some (castL h xs) else none
  | some (.fr t' xs) => if h : t' = t then some (castL h xs) else none
  | _ => none
 | .nils => some []
 | .suf id lo => match H id with
  | some (.row _ t' xs _) => if h : t' = t then some (castL h (xs.drop lo.toNat)) else none
  | _ => none
 | _ => none
theorem SC.rdT_ok {t : Ty} {c : SC E} {xs : List (Den E.S t)} {v : Value} (hH : HR P E Bs F0 w0 w z g H) (h : c.rdT H t = some xs) (hr : RC P E z g c v) :
  ∃ A cap rows F, v = .slice A xs.length cap ∧ SlF F (E.size t) A xs.length rows w ∧ xs.length ≤ cap ∧ Rows E z t xs rows := by
 unfold SC.rdT at h
 split at h
 ·rename_i t' ys
  split at h
  ·rename_i ht
   subst ht
   obtain rfl := Option.some.inj h
   obtain ⟨A, cap, rows, ev, hsl, hcap, hrows⟩ := SC.fro_ok (c := .dt (.sl t') ys) hH rfl hr
   exact ⟨A, cap, rows, _, ev, hsl.stand hH.fz, hcap, hrows⟩
  ·cases h
 ·rename_i id
  split at h
  ·rename_i e t' ys foc hi
   split at h
   ·rename_i ht
    subst ht
    obtain rfl := Option.some.inj h
    obtain ⟨l, h1, rfl⟩ := hr
    obtain ⟨l2, rows2, h3, hn3, hc3, hown3, hlen3, hrl3, hrows3, _⟩ := hH.hold _ _ hi
    rw [h1] at h3; obtain rfl := Option.some.inj h3
    have hsl3 := row_reads (w := w) (e := e) (cap := l.cap) ⟨hown3, hlen3, hrl3⟩
    have hcap := (Own.cap_le hown3).1
    rw [hc3, hn3] at hsl3
    rw [hn3] at hcap
    exact ⟨_, _, _, _, by rw [hn3]; rfl, hsl3, hcap, hrows3⟩
   ·cases h
  ·rename_i t' ys hi
   split at h
   ·rename_i ht
    subst ht
    obtain rfl := Option.some.inj h
    obtain ⟨A, cap, rows, ev, hsl, hcap, hrows⟩ := SC.fro_ok (c := .own id) (l := ⟨t', ys⟩) hH (by simp only [SC.fro, hi]) hr
    exact ⟨A, cap, rows, _, ev, hsl.stand hH.fz, hcap, hrows⟩
   ·cases h
  ·cases h
 ·obtain rfl := Option.some.inj h
  simp only [RC] at hr
  subst hr
  exact ⟨none, 0, [], fun _ => False, rfl, SlF.nil _ _ _ _, Nat.le_refl _, fun i x r h => by simp at h⟩
 ·rename_i id lo
  split at h
  ·rename_i e t' ys foc hi
   split at h
   ·rename_i ht
    subst ht
    obtain rfl := Option.some.inj h
    obtain ⟨l, h1, hlo, ev⟩ := hr
    obtain ⟨l2, rows2, h3, hn3, hc3, hown3, hlen3, hrl3, hrows3, _⟩ := hH.hold _ _ hi
    rw [h1] at h3; obtain rfl := Option.some.inj h3
    have hsl3 := row_reads (w := w) (e := e) (cap := l.cap) ⟨hown3, hlen3, hrl3⟩
    have hcap := (Own.cap_le hown3).1
    have hcut := SlF.cut hsl3 hcap (lo := lo.toNat) (hi := l.n) hlo (Nat.le_refl _)
    have hsub := rows_sub hrows3 lo.toNat l.n
    rw [List.take_of_length_le (by omega : ys.length ≤ l.n)] at hsub
    have hl : (castL (E := E) rfl (ys.drop lo.toNat)).length = l.n - lo.toNat := by simp only [castL, List.length_drop]; omega
    refine ⟨cutA l.A l.c lo.toNat l.cap, l.cap - lo.toNat, (rows2.take l.n).drop lo.toNat, rowF l.A, by rw [hl]; exact ev, ?_, by rw [hl]; omega, hsub⟩
    rw [hl, ← hc3]
    exact hcut
   ·cases h
  ·cases h
 ·cases h
theorem Rows.cells {t : Ty} {xs : List (Den E.S t)} {rows : List (List Value)} (h : Rows E z t xs rows) (hl : rows.length = xs.length) : OneRows rows ∧ ∀ q ∈ rows, q.length = E.size t := by
 have key : ∀ q ∈ rows, ∃ x, RD E z (E.flat t) (E.fl t x) q := fun q hq => by
  obtain ⟨i, hi⟩ := List.mem_iff_getElem?.1 hq
  have hlt := (List.getElem?_eq_some_iff.1 hi).1
  exact ⟨_, h i _ _ (List.getElem?_eq_getElem (by omega : i < xs.length)) hi⟩
 exact ⟨fun q hq => let ⟨x, hx⟩ := key q hq; hx.cells, fun q hq => let ⟨x, hx⟩ := key q hq; hx.len⟩
theorem Rows.append {t : Ty} {xs ys : List (Den E.S t)} {rows news : List (List Value)} (h : Rows E z t xs rows) (h' : Rows E z t ys news) (hl : rows.length = xs.length) : Rows E z t (xs ++ ys) (rows ++ news) := by
 intro i x r hx hr
 rw [List.getElem?_append] at hx hr
 rw [hl] at hr
 split at hx
 ·rename_i hc; rw [if_pos hc] at hr; exact h i x r hx hr
 ·rename_i hc; rw [if_neg hc] at hr; exact h' _ x r hx hr
def bytesV (P : Program) (e : TypeId) : Nat := match P.info? e with
 | some i => i.bytes
 | none => 0
def appK (P : Program) (E : TE) (H : Nat → Option (Obj E)) (nx : Nat) (e : TypeId) (t : Ty) (xs : List (Den E.S t)) (cy : SC E) (del : Chs E) {R : Type} (k : Option (SV E) → Chs E → Option R) : Option R :=
 match cy.rdT H t, elemB P e (E.size t) (bytesV P e) with
 | some ys, true => Option.bind (room (bytesV P e) xs ys) fun zs => k (some (.v (.one (.own nx)))) ((nx, some (.row e t zs [])) :: del)
 | _, _ => none
def lApp (P : Program) (E : TE) (L : Nat → Option (SV E)) (H : Nat → Option (Obj E)) (nx : Nat) (T : TypeId) (x y : Operand) {R : Type} (k : Option (SV E) → Chs E → Option R) : Option R :=
 match opS E L x, opS E L y, P.underlying T with
 | some (.v (.one cx)), some (.v (.one cy)), some (.slice e) => match cx with
  | .own id => match H id with
   | some (.row e' t xs _) => match Nat.beq e' e with
    | true => appK P E H nx e t xs cy [(id, none)] k
    | false => none
   | _ => none
  | .pre id n => match H id with
   | some (.row e' t xs _) => match Nat.beq e' e with
    | true => Option.bind (subI xs 0 n) fun ys => appK P E H nx e t ys cy [(id, none)] k
    | false => none
   | _ => none
  | .nils => match E.ty e with
   | some t => appK P E H nx e t [] cy [] k
   | none => none
  | _ => none
 | _, _, _ => none
theorem appK_ok {T e : TypeId} {t : Ty} {x y : Operand} {xs : List (Den E.S t)} {cy : SC E} {del : Chs E} {A : Option Addr} {cap : Nat} {rows : List (List Value)} (ho : o.op = .call { callee := .builtin .append, args := #[x, y], argTypes := #[T, T] }) (hu : P.underlying T = some (.slice e))
  (hnx : Fresh g nx) (hH : HR P E Bs F0 w0 w z g H) (ex : ρ x = .slice A xs.length cap) (hy : RC P E z g cy (ρ y)) (hown : w.ownsRow 0 e (E.size t) (.slice A xs.length cap) xs.length rows.flatten) (hlen : rows.length = xs.length) (hrows : Rows E z t xs rows)
  (i : Nat) (hC : ∀ q, rowF A q → ∃ o, H i = some o ∧ fpO g i o q) (hdel : ∀ (o' : Obj E) j p, upH H ((nx, some o') :: del) j = some p → (j = nx ∧ p = o') ∨ (j ≠ nx ∧ (j ≠ i ∨ ∀ q, ¬ rowF A q) ∧ H j = some p))
  (h : appK P E H nx e t xs cy del k = some r) : Turns P E Bs F0 w0 w z g nx H ρ o false k r := by
 unfold appK at h
 split at h
 ·rename_i ys hys hel
  obtain ⟨zs, hz, h⟩ := bind_some h
  have hEl := elemOK hu hel
  obtain ⟨A2, cap2, news, F, ey, hsl, hcap2, hnews⟩ := SC.rdT_ok hH hys hy
  obtain ⟨hone, hnl⟩ := hnews.cells hsl.1
  obtain ⟨_, hrl⟩ := hrows.cells hlen
  have hS := Sep.single (L := match A with | some a => [a.block] | none => []) (x := .row e (E.size t) A xs.length cap rows) ⟨hown, hlen, hrl⟩ (fun q hq => by
   obtain ⟨a, rfl, rfl⟩ := hq
   simp)
  obtain ⟨A', cap', w', hrun, hS', hgrow, hoth⟩ := run_append (P := P) (k := 0) ho hEl ex ey hS rfl hsl hone rfl rfl hz hnl
  obtain ⟨h1, h2, rfl⟩ := room_some hz
  have hh := hS'.hold (.row e (E.size t) A' (xs.length + ys.length) cap' (rows ++ news)) (by simp)
  obtain ⟨hown', hlen', hrl'⟩ := hh
  have hfp := hS'.own (.row e (E.size t) A' (xs.length + ys.length) cap' (rows ++ news)) (by simp) trivial
  have hl : (xs ++ ys).length = xs.length + ys.length := List.length_append
  refine ⟨_, _, z, g.put nx ⟨A', (xs ++ ys).length, cap', E.size t, 0, 0⟩, w', _, h, ⟨hrun, ⟨_, rfl, _, Ga.put_self _ _ _, by rw [hl]⟩, Fz.Le.refl z, Ga.le_put hnx.self, hnx.put _, ?_, fun h => by cases h⟩⟩
  refine hH.turn (Ga.le_put hnx.self) (i := i) (i' := nx) (C := rowF A) hC hgrow hoth (o' := .row e t (xs ++ ys) []) ?_ (fun q hq => ?_) fun j p hj => ?_
  ·refine ⟨_, rows ++ news, Ga.put_self _ _ _, rfl, rfl, ?_, ?_, hrl', hrows.append hnews hlen, fun p hp => nomatch hp⟩
   ·simp only [hl]; exact hown'
   ·simp only [hl]; exact hlen'
  ·obtain ⟨l2, a2, h5, h6, rfl⟩ := hq
   rw [Ga.put_self] at h5
   obtain rfl := Option.some.inj h5
   rcases hfp a2.block ⟨a2, h6, rfl⟩ with h7 | h7
   ·exact .inr h7
   ·left
    cases A with
    | none => simp at h7
    | some a =>
     simp at h7
     exact ⟨a, rfl, h7⟩
  ·exact hdel _ j p hj
 ·cases h
theorem ownsRow_pre {e c n m cap : Nat} {A : Option Addr} {rows : List (List Value)} (h : w.ownsRow 0 e c (.slice A n cap) n rows.flatten) (hl : rows.length = n) (hr : ∀ q ∈ rows, q.length = c) (hm : m ≤ n) : w.ownsRow 0 e c (.slice A m cap) m (rows.take m).flatten := by
 have hfl : (rows.take m).flatten = rows.flatten.take (m * c) := by
  have h1 : rows.flatten = (rows.take m).flatten ++ (rows.drop m).flatten := by rw [← List.flatten_append, List.take_append_drop]
  have h2 : (rows.take m).flatten.length = m * c := by
   rw [length_flatten_rows (c := c) (fun q hq => hr q (List.mem_of_mem_take hq)), List.length_take]
   congr 1; omega
  rw [h1, List.take_left' h2]
 refine ⟨?_, ?_⟩
 ·rw [length_flatten_rows (c := c) (fun q hq => hr q (List.mem_of_mem_take hq)), List.length_take]
  congr 1; omega
 ·rcases h.2 with ⟨h2, h3⟩ | ⟨b, cap', cur, hv, hb, hh, hnc, hcm, hcs, htk⟩
  ·injection h2 with e1 e2 e3
   subst h3
   obtain rfl : m = 0 := by omega
   exact .inl ⟨by rw [e1, e3], rfl⟩
  ·injection hv with e1 _ e3
   subst e3
   refine .inr ⟨b, cap, cur, by rw [e1], hb, hh, by omega, hcm, hcs, ?_⟩
   rw [hfl, ← htk, List.take_take]
   congr 1
   have : m * c ≤ n * c := Nat.mul_le_mul_right c hm
   omega
theorem lApp_ok {T : TypeId} {x y : Operand} (ho : o.op = .call { callee := .builtin .append, args := #[x, y], argTypes := #[T, T] }) (hnx : Fresh g nx) (hρ : OpR P E z g L ρ) (hH : HR P E Bs F0 w0 w z g H) (h : lApp P E L H nx T x y k = some r) : Turns P E Bs F0 w0 w z g nx H ρ o false k r := by
 unfold lApp at h
 split at h
 ·rename_i cx cy e hx hy hu
  have ex := hρ x _ hx
  split at h
  ·rename_i id
   split at h
   ·rename_i e' t xs foc hi
    split at h
    ·rename_i hb
     obtain rfl := Nat.eq_of_beq_eq_true hb
     obtain ⟨l, h1, ev⟩ := ex
     obtain ⟨l2, rows, h3, hn, hc, hown, hlen, hrl, hrows, _⟩ := hH.hold _ _ hi
     rw [h1] at h3; obtain rfl := Option.some.inj h3
     rw [hc, hn] at hown
     rw [hn] at ev hlen
     exact appK_ok ho hu hnx hH ev (hρ y _ hy) hown hlen hrows id (fun q ⟨a, ha, hq⟩ => ⟨_, hi, l, a, h1, ha, hq⟩) (fun o' j p hj => by
      rcases upH_two hj with h5 | ⟨h5, h6, h7⟩
      ·exact .inl h5
      ·exact .inr ⟨h5, .inl h6, h7⟩) h
    ·cases h
   ·cases h
  ·rename_i id n
   split at h
   ·rename_i e' t xs foc hi
    split at h
    ·rename_i hb
     obtain rfl := Nat.eq_of_beq_eq_true hb
     obtain ⟨ys, hys, h⟩ := bind_some h
     obtain ⟨h00, h01, h02, rfl⟩ := subI_some hys
     obtain ⟨l, h1, ev⟩ := ex
     obtain ⟨l2, rows, h3, hn, hc, hown, hlen, hrl, hrows, _⟩ := hH.hold _ _ hi
     rw [h1] at h3; obtain rfl := Option.some.inj h3
     have hm : n.toNat ≤ l.n := by omega
     have hpre := ownsRow_pre hown hlen hrl hm
     have hyl : ((xs.take n.toNat).drop (0 : Int).toNat).length = n.toNat := by simp; omega
     have hsub := rows_sub hrows 0 n.toNat
     simp only [List.drop_zero] at hsub
     simp only [Int.toNat_zero, List.drop_zero] at h hyl
     rw [← hyl] at ev hpre
     rw [hc] at hpre
     exact appK_ok ho hu hnx hH ev (hρ y _ hy) (rows := rows.take n.toNat) (by rw [hyl] at hpre ⊢; exact hpre) (by rw [List.length_take, hyl]; omega) hsub id (fun q ⟨a, ha, hq⟩ => ⟨_, hi, l, a, h1, ha, hq⟩) (fun o' j p hj => by
      rcases upH_two hj with h5 | ⟨h5, h6, h7⟩
      ·exact .inl h5
      ·exact .inr ⟨h5, .inl h6, h7⟩) h
    ·cases h
   ·cases h
  ·split at h
   ·rename_i t ht
    have ev : ρ x = .slice none 0 0 := ex
    exact appK_ok (xs := ([] : List (Den E.S t))) (del := []) (A := none) (cap := 0) (rows := []) ho hu hnx hH ev (hρ y _ hy) ⟨by simp, .inl ⟨rfl, rfl⟩⟩ rfl (fun i x r h => by simp at h) nx (fun q ⟨a, ha, _⟩ => nomatch ha) (fun o' j p hj => by
      rcases upH_one hj with h5 | ⟨h5, h7⟩
      ·exact .inl h5
      ·exact .inr ⟨h5, .inr (fun q ⟨a, ha, _⟩ => nomatch ha), h7⟩) h
   ·cases h
  ·cases h
 ·cases h
theorem HR.row_new {e : TypeId} {t : Ty} {xs : List (Den E.S t)} {A : Option Addr} {cap n : Nat} {rows : List (List Value)} {w' : World} (h : HR P E Bs F0 w0 w z g H) (hnx : Fresh g nx) (hx : Ext w w') (hn : xs.length = n)
  (hown : w'.ownsRow 0 e (E.size t) (.slice A n cap) n rows.flatten) (hlen : rows.length = n) (hrows : Rows E z t xs rows) (hfp : ∀ q, rowF A q → w.heap.size ≤ q) :
  HR P E Bs F0 w0 w' z (g.put nx ⟨A, n, cap, E.size t, 0, 0⟩) (upH H [(nx, some (.row e t xs []))]) := by
 refine h.add (o := .row e t xs []) hx hnx.self ⟨_, rows, Ga.put_self _ _ _, hn.symm, rfl, hown, hlen, (hrows.cells (by omega)).2, hrows, fun p hp => nomatch hp⟩ (fun q hq => ?_) fun j p hj => upH_one hj
 obtain ⟨l2, a2, h5, h6, rfl⟩ := hq
 rw [Ga.put_self] at h5
 obtain rfl := Option.some.inj h5
 exact hfp _ ⟨a2, h6, rfl⟩
def zeroD (P : Program) (E : TE) (e : TypeId) (t : Ty) : Option (Den E.S t) := match zeroC P E e with
 | some zc => match dataL E (fun _ => none) (E.flat t) zc with
  | some h => some (E.ufl t h)
  | none => none
 | none => none
def Operand.same : Operand → Operand → Bool
 | .tmp a, .tmp b => Nat.beq a b
 | .const (.int _ a), .const (.int _ b) => decide (a = b)
 | _, _ => false
def Operand.zero : Operand → Bool
 | .const (.int _ a) => decide (a = 0)
 | _ => false
def lMake (P : Program) (E : TE) (L : Nat → Option (SV E)) (nx : Nat) (T : TypeId) (x y : Operand) {R : Type} (k : Option (SV E) → Chs E → Option R) : Option R :=
 match P.underlying T with
 | some (.slice e) => match E.ty e, opS E L y with
  | some t, some (.v (.one (.dt (.int _) n))) => match zeroD P E e t, elemB P e (E.size t) (bytesV P e), Operand.same x y, Operand.zero x with
   | some zv, true, true, _ => Option.bind (makeI (bytesV P e) zv n) fun xs => k (some (.v (.one (.own nx)))) [(nx, some (.row e t xs []))]
   | some zv, true, false, true => Option.bind (makeI (bytesV P e) zv n) fun _ => k (some (.v (.one (.own nx)))) [(nx, some (.row e t [] []))]
   | _, _, _, _ => none
  | _, _ => none
 | _ => none
theorem zeroD_ok {e : TypeId} {t : Ty} {x : Den E.S t} (h : zeroD P E e t = some x) : ∃ zs, zeroOf P e = some zs ∧ RD E z (E.flat t) (E.fl t x) zs := by
 unfold zeroD at h
 split at h
 ·rename_i zc hz
  split at h
  ·rename_i hd hh
   obtain rfl := Option.some.inj h
   obtain ⟨zs, h1, h2⟩ := zeroC_ok (P := P) (z := z) (g := fun _ => none) hz
   refine ⟨zs, h1, ?_⟩
   rw [E.fl_ufl]
   have key : ∀ {ts : List Ty} {cs : List (SC E)} {hl : HL E.S ts} {vs : List Value}, dataL E (fun _ => none) ts cs = some hl → All2 (RC P E z (fun _ => none)) cs vs → RD E z ts hl vs := by
    intro ts cs hl vs hd hc
    have hHR : HR P E [] z.F z.w z.w ⟨fun _ => False, z.w⟩ (fun _ => none) (fun _ => none) :=
     ⟨Chg.of_below (Below.refl _ _), (fun _ _ h => by cases h), (fun _ _ _ h => by cases h), (fun _ _ _ _ _ _ h => by cases h), (fun _ h => h.elim), (fun _ h => h.elim), (fun _ _ _ h => by cases h)⟩
    induction cs generalizing ts vs with
    | nil => cases ts with
     | nil => cases hc; exact .nil
     | cons t ts => simp [dataL] at hd
    | cons c cs ih => cases ts with
     | nil => simp [dataL] at hd
     | cons t ts =>
      cases hc with
      | cons h1 h2 =>
       simp only [dataL] at hd
       split at hd
       ·cases hd
       ·rename_i y hy
        split at hd
        ·rename_i h' hh'
         obtain rfl := Option.some.inj hd
         refine RD.cons ?_ (ih hh' h2)
         unfold SC.data at hy
         split at hy
         ·split at hy
          ·rename_i ht
           subst ht
           obtain rfl := Option.some.inj hy
           exact h1
          ·cases hy
         ·split at hy
          ·obtain rfl := Option.some.inj hy
           simp only [RC] at h1
           subst h1
           exact RD.sl (xs := []) (cap := 0) (SlF.nil _ _ _ _) (Nat.le_refl _) (rows := []) (fun i x r h => by simp at h) .nil
          ·cases hy
         ·cases hy
         ·cases hy
        ·cases hd
   exact key hh h2
  ·cases h
 ·cases h
theorem same_int {x y : Operand} {ky : IntKind} {n : Int} (hs : Operand.same x y = true) (hy : ρ y = .int ky n) (hρc : ∀ v, ρ (.const v) = v) : ∃ kx, ρ x = .int kx n := by
 unfold Operand.same at hs
 split at hs
 ·obtain rfl := Nat.eq_of_beq_eq_true hs
  exact ⟨ky, hy⟩
 ·rename_i ka a kb b
  simp only [decide_eq_true_eq] at hs
  subst hs
  rw [hρc] at hy
  injection hy with h1 h2
  exact ⟨ka, by rw [hρc, h2]⟩
 ·cases hs
theorem lMake_ok {T : TypeId} {x y : Operand} (ho : o.op = .makeSlice T x y) (hρc : ∀ v, ρ (.const v) = v) (hnx : Fresh g nx) (hρ : OpR P E z g L ρ) (hH : HR P E Bs F0 w0 w z g H) (h : lMake P E L nx T x y k = some r) : Turns P E Bs F0 w0 w z g nx H ρ o true k r := by
 unfold lMake at h
 split at h
 ·rename_i e hu
  split at h
  ·rename_i t ky n ht hy
   have hyv := SV.int_ok rfl (hρ y _ hy)
   split at h
   ·rename_i zv hz hel hsame
    obtain ⟨xs, hxs, h⟩ := bind_some h
    have hEl := elemOK hu hel
    obtain ⟨zs, hzo, hzr⟩ := zeroD_ok (z := z) hz
    obtain ⟨kx, hxv⟩ := same_int hsame hyv hρc
    obtain ⟨A', w', hrun, hS', hext⟩ := run_makeSlice_full (P := P) ho hEl hzo hxv hyv (Sep.start [] w) hxs
    obtain ⟨h0, h1, h2, rfl⟩ := makeI_some hxs
    obtain ⟨hown', hlen', _⟩ := hS'.hold _ (List.mem_cons_self ..)
    have hfp := hS'.own _ (List.mem_cons_self ..) trivial
    have hrows : Rows E z t (List.replicate n.toNat zv) (List.replicate n.toNat zs) := fun i x r hx hr => by
     rw [List.getElem?_replicate] at hx hr
     split at hx
     ·rename_i hc
      rw [if_pos hc] at hr
      obtain rfl := Option.some.inj hx
      obtain rfl := Option.some.inj hr
      exact hzr
     ·cases hx
    exact ⟨_, _, z, _, w', _, h, ⟨hrun, ⟨_, rfl, _, Ga.put_self _ _ _, rfl⟩, Fz.Le.refl z, Ga.le_put hnx.self, hnx.put _, hH.row_new hnx hext (by simp) hown' hlen' hrows (fun q ⟨a, ha, hq⟩ => (hfp q ⟨a, ha, hq⟩).resolve_right (by simp)), fun _ => hext⟩⟩
   ·rename_i zv hz hel hsame hzero
    obtain ⟨xs, hxs, h⟩ := bind_some h
    have hEl := elemOK hu hel
    have hxv : ∃ kx, ρ x = .int kx 0 := by
     unfold Operand.zero at hzero
     split at hzero
     ·rename_i ka a
      simp only [decide_eq_true_eq] at hzero
      subst hzero
      exact ⟨ka, hρc _⟩
     ·cases hzero
    obtain ⟨kx, hxv⟩ := hxv
    obtain ⟨A', w', hrun, hS', hext⟩ := run_makeSlice_cap (P := P) ho hEl hxv hyv (Sep.start [] w) hxs
    obtain ⟨hown', hlen', _⟩ := hS'.hold _ (List.mem_cons_self ..)
    have hfp := hS'.own _ (List.mem_cons_self ..) trivial
    exact ⟨_, _, z, _, w', _, h, ⟨hrun, ⟨_, rfl, _, Ga.put_self _ _ _, rfl⟩, Fz.Le.refl z, Ga.le_put hnx.self, hnx.put _, hH.row_new hnx hext rfl hown' hlen' (fun i x r h => by simp at h) (fun q ⟨a, ha, hq⟩ => (hfp q ⟨a, ha, hq⟩).resolve_right (by simp)), fun _ => hext⟩⟩
   ·cases h
  ·cases h
 ·cases h
end
end Rt
end Go
namespace Go
namespace Rt
open Go.RowKit
section
variable {P : Program} {E : TE} {z : Fz} {g : Ga} {nx : Nat}
variable {L : Nat → Option (SV E)} {H : Nat → Option (Obj E)} {ρ : Operand → Value} {w w0 : World} {o : Oper} {R : Type} {r : R} {Bs : List Nat} {F0 : Nat → Prop}
variable {k : Option (SV E) → Chs E → Option R}
def chunksD (E : TE) (H : Nat → Option (Obj E)) (t : Ty) : Nat → List (SC E) → Option (List (Den E.S t))
 | 0, _ => some []
 | n + 1, l => match dataL E H (E.flat t) (l.take (E.size t)) with
  | some h => match chunksD E H t n (l.drop (E.size t)) with
   | some xs => some (E.ufl t h :: xs)
   | none => none
  | none => none
theorem chunksD_ok {t : Ty} (hH : HR P E Bs F0 w0 w z g H) : ∀ {n : Nat} {l : List (SC E)} {xs : List (Den E.S t)} {vs : List Value}, chunksD E H t n l = some xs → All2 (RC P E z g) l vs → vs.length = n * E.size t →
  ∃ rows : List (List Value), rows.flatten = vs ∧ rows.length = n ∧ xs.length = n ∧ Rows E z t xs rows
 | 0, l, xs, vs, h, hr, hl => by
  simp only [chunksD, Option.some.injEq] at h
  subst h
  rw [Nat.zero_mul] at hl
  exact ⟨[], (List.eq_nil_of_length_eq_zero hl).symm, rfl, rfl, fun i x r h => by simp at h⟩
 | n + 1, l, xs, vs, h, hr, hl => by
  simp only [chunksD] at h
  split at h
  ·rename_i hd hh
   split at h
   ·rename_i xs' hx
    obtain rfl := Option.some.inj h
    have hrow := dataL_ok hH hh (hr.take (E.size t))
    obtain ⟨rows, h1, h2, h3, h4⟩ := chunksD_ok hH hx (hr.drop (E.size t)) (by rw [List.length_drop, hl, Nat.succ_mul]; omega)
    refine ⟨vs.take (E.size t) :: rows, by rw [List.flatten_cons, h1, List.take_append_drop], by simp [h2], by simp [h3], fun i x r hx hr => ?_⟩
    cases i with
    | zero =>
     simp only [List.getElem?_cons_zero, Option.some.injEq] at hx hr
     subst hx; subst hr
     rw [E.fl_ufl]
     exact hrow
    | succ i =>
     simp only [List.getElem?_cons_succ] at hx hr
     exact h4 i x r hx hr
   ·cases h
  ·cases h
theorem All2.rep {l : List (SC E)} {vs : List Value} (h : All2 (RC P E z g) l vs) : ∀ n, All2 (RC P E z g) (List.replicate n l).flatten (List.replicate n vs).flatten
 | 0 => .nil
 | n + 1 => by
  simp only [List.replicate_succ, List.flatten_cons]
  exact h.append (h.rep n)
def lSlice (P : Program) (E : TE) (L : Nat → Option (SV E)) (H : Nat → Option (Obj E)) (nx : Nat) (T : TypeId) (n : Nat) (ps : Array (Nat × Operand)) {R : Type} (k : Option (SV E) → Chs E → Option R) : Option R :=
 match P.underlying T with
 | some (.slice e) => match E.ty e, zeroC P E e, sizeV P e with
  | some t, some zc, some s => match Nat.beq s (E.size t) && Nat.beq zc.length s && Nat.ble (n * s) 16777216 && Nat.ble n 9223372036854775807 with
   | true => match buildS E L s ps.toList (List.replicate n zc).flatten with
    | some l => match chunksD E (upH H (frzL H l)) t n l with
     | some xs => k (some (.v (.one (.own nx)))) ((nx, some (.row e t xs [])) :: frzL H l)
     | none => none
    | none => none
   | false => none
  | _, _, _ => none
 | _ => none
theorem lSlice_ok {T : TypeId} {n : Nat} {ps : Array (Nat × Operand)} (ho : o.op = .buildSlice T n ps) (hnx : Fresh g nx) (hρ : OpR P E z g L ρ) (hH : HR P E Bs F0 w0 w z g H) (h : lSlice P E L H nx T n ps k = some r) : Turns P E Bs F0 w0 w z g nx H ρ o true k r := by
 unfold lSlice at h
 split at h
 ·rename_i e hu
  split at h
  ·rename_i t zc s ht hz hs
   split at h
   ·rename_i hb
    simp only [Bool.and_eq_true] at hb
    obtain ⟨⟨⟨hb1, hb2⟩, hb3⟩, hb4⟩ := hb
    obtain rfl := Nat.eq_of_beq_eq_true hb1
    have hzl := Nat.eq_of_beq_eq_true hb2
    have hbig := Nat.le_of_ble_eq_true hb3
    split at h
    ·rename_i l hl
     split at h
     ·rename_i xs hx
      obtain ⟨zs, hzo, hzr⟩ := zeroC_ok (P := P) (z := z) (g := g) hz
      have hzs : zs.length = E.size t := by rw [← hzr.len]; exact hzl
      obtain ⟨inf, zv, hi, hzv, rfl⟩ : ∃ inf zv, P.info? e = some inf ∧ inf.zero = some zv ∧ zs = zv.cells.toList := by
       unfold zeroOf at hzo
       split at hzo
       ·rename_i inf hi
        split at hzo
        ·rename_i zv hzv
         exact ⟨inf, zv, hi, hzv, (Option.some.inj hzo).symm⟩
        ·cases hzo
       ·cases hzo
      have hsz : inf.size = E.size t := by simpa [sizeV, hi] using hs
      have hflat := flatten_replicate_cells zv.cells.toList n
      rw [hzs, Array.toArray_toList] at hflat
      obtain ⟨cells', hf, hr⟩ := buildS_fill (P := P) hρ hl (cells := madeCells zv.cells (n * E.size t)) (by rw [← hflat]; exact hzr.rep n)
      have hfsz : ∀ (ps : List (Nat × Value)) (c c' : Array Value) (pl : Nat → Option (Nat × Nat)), Instr.fill pl c ps = some c' → c'.size = c.size := by
       intro ps
       induction ps with
       | nil => intro c c' pl h; simp only [Instr.fill, Option.some.injEq] at h; subst h; rfl
       | cons p ps ih =>
        intro c c' pl h
        simp only [Instr.fill] at h
        split at h
        ·cases h
        ·split at h
         ·cases h
         ·rw [ih _ _ _ h]
          have key : ∀ (us : List (Value × Nat)) (off : Nat) (c : Array Value), (us.foldl (fun cs (q : Value × Nat) => cs.setIfInBounds (off + q.2) q.1) c).size = c.size := by
           intro us
           induction us with
           | nil => intro off c; rfl
           | cons u us ih => intro off c; rw [List.foldl_cons, ih]; simp
          rw [← Array.foldl_toList]
          exact key _ _ _
      have hcl : cells'.toList.length = n * E.size t := by
       rw [Array.length_toList, hfsz _ _ _ _ hf, size_madeCells]
      obtain ⟨z', hz', hH'⟩ := frzL_ok hH l
      obtain ⟨rows, h1, h2, h3, h4⟩ := chunksD_ok hH' hx (hr.mono fun _ _ h => RC.le h hz' (Ga.Le.refl g)) hcl
      have hcells := h4.cells (by omega)
      have hS := (Sep.start [] w).row_new e (E.size t) n rows h2 hcells.2 hb4
      rw [h1, Array.toArray_toList] at hS
      obtain ⟨hown', hlen', _⟩ := hS.hold _ (List.mem_cons_self ..)
      have hfp := hS.own _ (List.mem_cons_self ..) trivial
      have hrun : (execOp ρ o).run P w = .ok (.value (.slice (some ⟨w.heap.size, 0, none⟩) n n)) (w.alloc (.cells cells' e)) := by
       unfold execOp
       rw [ho]
       have e3 : (ps.map fun (i, x) => (i, ρ x)).toList = ps.toList.map fun p => (p.1, ρ p.2) := by simp
       have hng : ¬ (n * inf.size > 2 ^ 24) := by rw [hsz]; omega
       simp only [Instr.buildSlice, Sem.run_bind, run_underlying hu, Result.andThen_ok, sizeOf, typeInfo, run_program, hi, Sem.run_pure]
       rw [if_neg hng]
       rw [e3]
       by_cases h0 : n * E.size t = 0
       ·rw [if_pos (by rw [hsz]; exact h0)]
        have hmade : (Array.range (n * E.size t)).map (fun x => (#[] : Array Value)[x % (#[] : Array Value).size]!) = madeCells zv.cells (n * E.size t) := by rw [h0]; simp [madeCells]
        simp only [Sem.run_bind, Sem.run_pure, Result.andThen_ok, hmade, hsz, hf, newRow]
        rfl
       ·rw [if_neg (by rw [hsz]; exact h0)]
        have hmade : (Array.range (n * E.size t)).map (fun x => zv.cells[x % zv.cells.size]!) = madeCells zv.cells (n * E.size t) := rfl
        have hzrun : (zeroValue e).run P w = .ok zv w := by simp [zeroValue, typeInfo, hi, hzv]
        simp only [Sem.run_bind, Sem.run_pure, Result.andThen_ok, hzrun, hmade, hsz, hf, newRow]
        rfl
      have hup : upH H ((nx, some (.row e t xs [])) :: frzL H l) = upH (upH H (frzL H l)) [(nx, some (.row e t xs []))] := by rw [upH_append]; rfl
      refine ⟨_, _, z', _, _, _, h, ⟨hrun, ⟨_, rfl, _, Ga.put_self _ _ ⟨some ⟨w.heap.size, 0, none⟩, n, n, E.size t, 0, 0⟩, rfl⟩, hz', Ga.le_put hnx.self, hnx.put _, ?_, fun _ => Ext.one w _⟩⟩
      rw [hup]
      exact hH'.row_new hnx (Ext.one w _) h3 hown' hlen' h4 fun q ⟨a, ha, hq⟩ => (hfp q ⟨a, ha, hq⟩).resolve_right (by simp)
     ·cases h
    ·cases h
   ·cases h
  ·cases h
 ·cases h
theorem run_copy_own {T T2 e c : Nat} {x y : Operand} {n cap m cap2 : Nat} {A A2 : Option Addr} {rows news : List (List Value)} {F : Nat → Prop} (ho : o.op = .call { callee := .builtin .copy, args := #[x, y], argTypes := #[T, T2] }) (hu : P.underlying T = some (.slice e)) (hs : sizeV P e = some c)
  (hx : ρ x = .slice A n cap) (hy : ρ y = .slice A2 m cap2) (hR : Res.holds w (.row e c A n cap rows)) (hsl : SlF F c A2 m news w) (hnl : ∀ q ∈ news, q.length = c) (hone : OneRows news) :
  ∃ w', (execOp ρ o).run P w = .ok (.value (.int .i64 ((min m n : Nat) : Int))) w' ∧ Res.holds w' (.row e c A n cap (news.take (min m n) ++ rows.drop (min m n))) ∧ Grow w w' ∧ ∀ q, ¬ rowF A q → w'.heap[q]? = w.heap[q]? := by
 obtain ⟨cs, hop⟩ := op_builtin (ρ := ρ) ho
 rw [BigFrame.builtin_copy] at hop
 obtain ⟨hown, hlen, hrl⟩ := hR
 obtain ⟨inf, hi, hsz⟩ : ∃ inf, P.info? e = some inf ∧ inf.size = c := by
  unfold sizeV at hs
  cases hq : P.info? e with
  | none => simp [hq] at hs
  | some i => exact ⟨i, rfl, by simpa [hq] using hs⟩
 have hmin : Nat.min m n = min m n := rfl
 have hload : (Builtin.firstCells c (Nat.min m n) (.slice A2 m cap2)).run P w = .ok (news.take (min m n)).flatten.toArray w := by
  have htl : ∀ q ∈ news.take (min m n), q.length = c := fun q hq => hnl q (List.mem_of_mem_take hq)
  have hfl : (news.take (min m n)).flatten.length = min m n * c := by
   rw [length_flatten_rows htl, List.length_take, hsl.1]
   congr 1; omega
  cases A2 with
  | none =>
   have hm : m = 0 := by
    rcases Nat.eq_zero_or_pos m with h0 | h0
    ·exact h0
    ·obtain ⟨b, off, hh, _⟩ := hsl.2 h0; cases hh
   have : (news.take (min m n)).flatten = [] := List.eq_nil_of_length_eq_zero (by rw [hfl, hm]; simp)
   rw [this]
   rfl
  | some ad =>
   have := run_loadCells_list (P := P) w ad (news.take (min m n)).flatten (fun j v hv => by
    have hjl : j < min m n * c := by rw [← hfl]; exact (List.getElem?_eq_some_iff.1 hv).1
    have hc0 : 0 < c := by
     rcases Nat.eq_zero_or_pos c with h0 | h0
     ·rw [h0] at hjl; omega
     ·exact h0
    have hm0 : 0 < m := by
     rcases Nat.eq_zero_or_pos m with h0 | h0
     ·subst h0; simp at hjl
     ·exact h0
    obtain ⟨b, off, hA, _, hcell⟩ := hsl.2 hm0
    simp only [Option.some.injEq] at hA
    subst hA
    have hq : j / c < min m n := Nat.div_lt_of_lt_mul (by rw [Nat.mul_comm]; exact hjl)
    have hqn : j / c < news.length := by rw [hsl.1]; omega
    have hmod : j % c < c := Nat.mod_lt _ hc0
    have hrow := hcell (j / c) _ (List.getElem?_eq_getElem hqn)
    have hgt : (news.take (min m n))[j / c]? = some news[j / c] := by rw [List.getElem?_take, if_pos hq, List.getElem?_eq_getElem hqn]
    have hju := flatten_get htl hgt (j % c) (news[j / c][j % c]'(by rw [hrow.1]; exact hmod)) (List.getElem?_eq_getElem _)
    have hj : j / c * c + j % c = j := by rw [Nat.mul_comm]; exact Nat.div_add_mod j c
    rw [hj, hv] at hju
    have hcl := hrow.2 (j % c) _ (List.getElem?_eq_getElem (by rw [hrow.1]; exact hmod))
    rw [Nat.add_assoc, hj] at hcl
    rw [Addr.add_mk, hcl, hju])
   rw [hfl] at this
   exact this
 have hnt : ∀ q ∈ news.take (min m n) ++ rows.drop (min m n), q.length = c := fun q hq => by
  rcases List.mem_append.1 hq with hq | hq
  ·exact hnl q (List.mem_of_mem_take hq)
  ·exact hrl q (List.mem_of_mem_drop hq)
 have hnlen : (news.take (min m n) ++ rows.drop (min m n)).length = n := by
  rw [List.length_append, List.length_take, List.length_drop, hsl.1, hlen]
  omega
 have hfl : (news.take (min m n)).flatten.length = min m n * c := by
  rw [length_flatten_rows (c := c) (fun q hq => hnl q (List.mem_of_mem_take hq)), List.length_take, hsl.1]
  congr 1; omega
 rcases hown.2 with ⟨hv, hn0⟩ | ⟨b, cap', cur, hv, hb, hh, hnc, hcm, hcs, htk⟩
 ·injection hv with e1 e2 e3
  subst hn0; subst e1; subst e3
  refine ⟨w, ?_, ⟨⟨?_, .inl ⟨rfl, rfl⟩⟩, hnlen, hnt⟩, Grow.refl w, fun _ _ => rfl⟩
  ·have hl0 := hload
   rw [show Nat.min m 0 = 0 from Nat.min_zero m] at hl0
   rw [hop]
   simp [hx, hy, Builtin.copy_, run_underlying hu, Builtin.lenOf, sizeOf, typeInfo, hi, hsz, hl0, goInt]
  ·rw [length_flatten_rows hnt, hnlen]
 ·injection hv with e1 _ e3
  subst e1; subst e3
  have hfit : 0 + 0 + (news.take (min m n)).flatten.length ≤ cur.size := by
   rw [hfl, hcs]
   have : min m n * c ≤ cap * c := Nat.mul_le_mul_right c (by omega)
   omega
  have h1 : ∀ v ∈ (news.take (min m n)).flatten, v.oneCell' = true := fun v hv => by
   obtain ⟨q, hq, hvq⟩ := List.mem_flatten.1 hv
   exact allCells_one (hone q (List.mem_of_mem_take hq)) v hvq
  have hst := run_storeCells_at (P := P) b 0 e (news.take (min m n)).flatten 0 cur w hh hfit h1
  refine ⟨w.setRow b (cur.toList.take (0 + 0) ++ (news.take (min m n)).flatten ++ cur.toList.drop (0 + 0 + (news.take (min m n)).flatten.length)).toArray, ?_, ⟨⟨?_, .inr ⟨b, cap, _, rfl, Nat.zero_le _, setRow_at w b _ cur e hh, hnc, hcm, ?_, ?_⟩⟩, hnlen, hnt⟩, setRow_grow w b _, fun q hq => setRow_else w b q _ (fun he => hq ⟨_, rfl, he⟩)⟩
  ·rw [hop]
   simp [hx, hy, Builtin.copy_, run_underlying hu, Builtin.lenOf, sizeOf, typeInfo, hi, hsz, hload, goInt, hst]
  ·rw [length_flatten_rows hnt, hnlen]
  ·simp only [Nat.zero_add, Nat.add_zero, List.take_zero, List.nil_append, List.size_toArray, List.length_append, List.length_drop, Array.length_toList, hcs] at hfit ⊢
   omega
  ·simp only [Nat.zero_add, Nat.add_zero, List.take_zero, List.nil_append]
   have hrf : (rows.drop (min m n)).flatten = rows.flatten.drop (min m n * c) := by
    have e1 : rows.flatten = (rows.take (min m n)).flatten ++ (rows.drop (min m n)).flatten := by rw [← List.flatten_append, List.take_append_drop]
    have e2 : (rows.take (min m n)).flatten.length = min m n * c := by
     rw [length_flatten_rows (c := c) (fun q hq => hrl q (List.mem_of_mem_take hq)), List.length_take, hlen]
     congr 1; omega
    rw [e1, List.drop_left' e2]
   rw [List.flatten_append, hrf, ← htk]
   rw [List.take_append, hfl]
   rw [List.take_of_length_le (by rw [hfl]; exact Nat.mul_le_mul_right c (by omega))]
   rw [List.drop_take]
def lCopy (P : Program) (E : TE) (L : Nat → Option (SV E)) (H : Nat → Option (Obj E)) (T : TypeId) (x y : Operand) {R : Type} (k : Option (SV E) → Chs E → Option R) : Option R :=
 match opS E L x, opS E L y, P.underlying T with
 | some (.v (.one (.own id))), some (.v (.one cy)), some (.slice e) => match H id with
  | some (.row e' t xs _) => match Nat.beq e' e, sizeV P e, cy.rdT H t with
   | true, some s, some ys => match Nat.beq s (E.size t) with
    | true => k (some (.v (.one (.dt (.int .i64) ((min ys.length xs.length : Nat) : Int))))) [(id, some (.row e t (copyL xs ys) []))]
    | false => none
   | _, _, _ => none
  | _ => none
 | _, _, _ => none
theorem copy_rows {t : Ty} {xs ys : List (Den E.S t)} {rows news : List (List Value)} (h : Rows E z t xs rows) (h' : Rows E z t ys news) (hl' : news.length = ys.length) : Rows E z t (copyL xs ys) (news.take (min ys.length xs.length) ++ rows.drop (min ys.length xs.length)) := by
 unfold copyL
 refine Rows.append ?_ ?_ (by rw [List.length_take, List.length_take, hl'])
 ·have := rows_sub h' 0 (min ys.length xs.length)
  simpa using this
 ·intro i x r hx hr
  rw [List.getElem?_drop] at hx hr
  exact h _ x r hx hr
theorem lCopy_ok {T T2 : TypeId} {x y : Operand} (ho : o.op = .call { callee := .builtin .copy, args := #[x, y], argTypes := #[T, T2] }) (hnx : Fresh g nx) (hρ : OpR P E z g L ρ) (hH : HR P E Bs F0 w0 w z g H) (h : lCopy P E L H T x y k = some r) : Turns P E Bs F0 w0 w z g nx H ρ o false k r := by
 unfold lCopy at h
 split at h
 ·rename_i id cy e hx hy hu
  split at h
  ·rename_i e' t xs foc hi
   split at h
   ·rename_i s ys hb hs hys
    obtain rfl := Nat.eq_of_beq_eq_true hb
    split at h
    ·rename_i hb2
     obtain rfl := Nat.eq_of_beq_eq_true hb2
     obtain ⟨l, h1, ev⟩ := hρ x _ hx
     obtain ⟨l2, rows, h3, hn, hc, hown, hlen, hrl, hrows, _⟩ := hH.hold _ _ hi
     rw [h1] at h3; obtain rfl := Option.some.inj h3
     obtain ⟨A2, cap2, news, F, ey, hsl, hcap2, hnews⟩ := SC.rdT_ok hH hys (hρ y _ hy)
     obtain ⟨hone, hnl⟩ := hnews.cells hsl.1
     obtain ⟨w', hrun, hR', hgrow, hoth⟩ := run_copy_own (P := P) (w := w) (rows := rows) ho hu hs ev ey ⟨by rw [← hc]; exact hown, hlen, by rw [← hc]; exact hrl⟩ hsl hnl hone
     obtain ⟨hown', hlen', hrl'⟩ := hR'
     have hrows' := copy_rows hrows hnews hsl.1
     have hcl : (copyL xs ys).length = xs.length := by unfold copyL; simp; omega
     rw [hn] at hrun hown' hlen' hrl'
     refine ⟨_, _, z, g, w', _, h, ⟨hrun, ⟨_, rfl, .int .nil⟩, Fz.Le.refl z, Ga.Le.refl g, hnx.succ, ?_, fun h => by cases h⟩⟩
     refine hH.turn (Ga.Le.refl g) (i := id) (i' := id) (C := rowF l.A) (fun q ⟨a, ha, hq⟩ => ⟨_, hi, l, a, h1, ha, hq⟩) hgrow (fun q _ hq => hoth q hq) (o' := .row e' t (copyL xs ys) []) ?_ (fun q hq => ?_) fun j p hj => ?_
     ·exact ⟨l, _, h1, by rw [hcl]; exact hn, hc, by rw [hn, hc]; exact hown', by rw [hn]; exact hlen', by rw [hc]; exact hrl', hrows', fun p hp => nomatch hp⟩
     ·obtain ⟨l2, a2, h5, h6, rfl⟩ := hq
      rw [h1] at h5; obtain rfl := Option.some.inj h5
      exact .inl ⟨a2, h6, rfl⟩
     ·rcases upH_one hj with ⟨rfl, rfl⟩ | ⟨h5, h6⟩
      ·exact .inl ⟨rfl, rfl⟩
      ·exact .inr ⟨h5, .inl h5, h6⟩
    ·cases h
   ·cases h
  ·cases h
 ·cases h
end
end Rt
end Go
namespace Go
namespace Rt
open Go.RowKit
section
variable {P : Program} {E : TE} {z : Fz} {g : Ga} {nx : Nat}
variable {L : Nat → Option (SV E)} {H : Nat → Option (Obj E)} {ρ : Operand → Value} {w w0 : World} {o : Oper} {R : Type} {r : R} {Bs : List Nat} {F0 : Nat → Prop}
variable {k : Option (SV E) → Chs E → Option R}
end
end Rt
end Go
namespace Go
namespace Rt
open Go.RowKit
def Tp (S : Nat → Type) : List Ty → Type
 | [] => Unit
 | [t] => Den S t
 | t :: u :: ts => Den S t × Tp S (u :: ts)
def toTp {S : Nat → Type} : (ts : List Ty) → HL S ts → Tp S ts
 | [], _ => ()
 | [_], h => h.1
 | _ :: u :: ts, h => (h.1, toTp (u :: ts) h.2)
def ofTp {S : Nat → Type} : (ts : List Ty) → Tp S ts → HL S ts
 | [], _ => ()
 | [_], h => (h, ())
 | _ :: u :: ts, h => (h.1, ofTp (u :: ts) h.2)
theorem ofTp_toTp {S : Nat → Type} : ∀ (ts : List Ty) (h : HL S ts), ofTp ts (toTp ts h) = h
 | [], _ => rfl
 | [_], _ => rfl
 | t :: u :: ts, h => by
  simp only [toTp, ofTp]
  rw [ofTp_toTp (u :: ts) h.2]
  rfl
abbrev Mk := List (Option TypeId)
inductive Pm where
 | d (t : Ty)
 | l (t : Ty) (m : Mk)
 | g (t : Ty) (m : Mk)
 | b (T : TypeId) (t : Ty)
 | bm (T : TypeId) (t : Ty) (m : Mk)
 | p (t : Ty)
 | mp (T : TypeId) (k v : Ty)
 | f1 (a r : Ty)
 | f2 (a b r : Ty)
@[reducible] def Pm.T (E : TE) : Pm → Type
 | .d t => Den E.S t
 | .l t _ => Den E.S t
 | .g t _ => Den E.S t
 | .b _ t => Den E.S t
 | .bm _ t _ => Den E.S t
 | .p t => Den E.S t
 | .mp _ k v => List (Den E.S k) × List (Den E.S v)
 | .f1 x r => Den E.S x → Option (Den E.S r)
 | .f2 x y r => Den E.S x → Den E.S y → Option (Den E.S r)
def PA (E : TE) : List Pm → Type
 | [] => Unit
 | p :: ps => p.T E × PA E ps
def backs : List Pm → List Ty
 | [] => []
 | .l t _ :: ps => t :: backs ps
 | .b _ t :: ps => t :: backs ps
 | .bm _ t _ :: ps => t :: backs ps
 | .mp _ k v :: ps => .sl k :: .sl v :: backs ps
 | _ :: ps => backs ps
def putB (E : TE) : (ps : List Pm) → PA E ps → HL E.S (backs ps) → PA E ps
 | [], _, _ => ()
 | .l _ _ :: ps, a, h => (h.1, putB E ps a.2 h.2)
 | .g _ _ :: ps, a, h => (a.1, putB E ps a.2 h)
 | .b _ _ :: ps, a, h => (h.1, putB E ps a.2 h.2)
 | .bm _ _ _ :: ps, a, h => (h.1, putB E ps a.2 h.2)
 | .mp _ _ _ :: ps, a, h => ((h.1, h.2.1), putB E ps a.2 h.2.2)
 | .d _ :: ps, a, h => (a.1, putB E ps a.2 h)
 | .p _ :: ps, a, h => (a.1, putB E ps a.2 h)
 | .f1 _ _ :: ps, a, h => (a.1, putB E ps a.2 h)
 | .f2 _ _ _ :: ps, a, h => (a.1, putB E ps a.2 h)
abbrev Rs := List (Ty × Mk)
def Rs.ts : Rs → List Ty
 | [] => []
 | p :: rs => p.1 :: Rs.ts rs
def ownC (E : TE) : Mk → (ts : List Ty) → HL E.S ts → Nat → List (SC E)
 | some _ :: ms, .sl _ :: ts, h, n => .own n :: ownC E ms ts h.2 (n + 1)
 | none :: ms, t :: ts, h, n => .dt t h.1 :: ownC E ms ts h.2 n
 | _, ts, h, _ => hlc E ts h
def ownO (E : TE) : Mk → (ts : List Ty) → HL E.S ts → Nat → Chs E
 | some e :: ms, .sl t :: ts, h, n => (n, some (.row e t h.1 [])) :: ownO E ms ts h.2 (n + 1)
 | none :: ms, _ :: ts, h, n => ownO E ms ts h.2 n
 | _, _, _, _ => []
def cntO : Mk → List Ty → Nat
 | some _ :: ms, .sl _ :: ts => cntO ms ts + 1
 | none :: ms, _ :: ts => cntO ms ts
 | _, _ => 0
def asV (E : TE) : (t : Ty) → List (SC E) → Option (V1 E)
 | .st _, l => some (.agg l)
 | _, [c] => some (.one c)
 | _, _ => none
def argsV (E : TE) : (ps : List Pm) → PA E ps → Nat → Option (List (V1 E))
 | [], _, _ => some []
 | .d t :: ps, a, n => match asV E t (E.cells t a.1), argsV E ps a.2 n with
  | some v, some q => some (v :: q)
  | _, _ => none
 | .l t m :: ps, a, n => match asV E t (ownC E m (E.flat t) (E.fl t a.1) n), argsV E ps a.2 (n + cntO m (E.flat t)) with
  | some v, some q => some (v :: q)
  | _, _ => none
 | .g t m :: ps, a, n => match asV E t (ownC E m (E.flat t) (E.fl t a.1) n), argsV E ps a.2 (n + cntO m (E.flat t)) with
  | some v, some q => some (v :: q)
  | _, _ => none
 | .b _ _ :: ps, a, n => match argsV E ps a.2 (n + 1) with
  | some q => some (.one (.ptr n 0) :: q)
  | none => none
 | .bm _ t m :: ps, a, n => match argsV E ps a.2 (n + 1 + cntO m (E.flat t)) with
  | some q => some (.one (.ptr n 0) :: q)
  | none => none
 | .mp _ _ _ :: ps, a, n => match argsV E ps a.2 (n + 1) with
  | some q => some (.one (.mp n) :: q)
  | none => none
 | .p t :: ps, a, n => match argsV E ps a.2 n with
  | some q => some (.one (.elf t a.1 0) :: q)
  | none => none
 | .f1 x r :: ps, a, n => match argsV E ps a.2 n with
  | some q => some (.one (.fn1 x r a.1) :: q)
  | none => none
 | .f2 x y r :: ps, a, n => match argsV E ps a.2 n with
  | some q => some (.one (.fn2 x y r a.1) :: q)
  | none => none
def argsO (E : TE) : (ps : List Pm) → PA E ps → Nat → Chs E
 | [], _, _ => []
 | .l t m :: ps, a, n => ownO E m (E.flat t) (E.fl t a.1) n ++ argsO E ps a.2 (n + cntO m (E.flat t))
 | .g t m :: ps, a, n => ownO E m (E.flat t) (E.fl t a.1) n ++ argsO E ps a.2 (n + cntO m (E.flat t))
 | .b T t :: ps, a, n => (n, some (.box T (E.cells t a.1))) :: argsO E ps a.2 (n + 1)
 | .bm T t m :: ps, a, n => (n, some (.box T (ownC E m (E.flat t) (E.fl t a.1) (n + 1)))) :: (ownO E m (E.flat t) (E.fl t a.1) (n + 1) ++ argsO E ps a.2 (n + 1 + cntO m (E.flat t)))
 | .mp T k v :: ps, a, n => (n, some (.map T k v a.1.1 a.1.2 [])) :: argsO E ps a.2 (n + 1)
 | .d _ :: ps, a, n => argsO E ps a.2 n
 | .p _ :: ps, a, n => argsO E ps a.2 n
 | .f1 _ _ :: ps, a, n => argsO E ps a.2 n
 | .f2 _ _ _ :: ps, a, n => argsO E ps a.2 n
def argsB (E : TE) : (ps : List Pm) → PA E ps → Nat → Nat → Chs E
 | [], _, _, _ => []
 | .l t m :: ps, a, n, k => ownO E m (E.flat t) (E.fl t a.1) n ++ argsB E ps a.2 (n + cntO m (E.flat t)) k
 | .g t m :: ps, a, n, k => argsB E ps a.2 (n + cntO m (E.flat t)) k
 | .b T t :: ps, a, n, k => (n, some (.box T (E.cells t a.1))) :: argsB E ps a.2 (n + 1) k
 | .bm T t m :: ps, a, n, k => (n, some (.box T (ownC E m (E.flat t) (E.fl t a.1) k))) :: (ownO E m (E.flat t) (E.fl t a.1) k ++ argsB E ps a.2 (n + 1 + cntO m (E.flat t)) (k + cntO m (E.flat t)))
 | .mp T kt v :: ps, a, n, k => (n, some (.map T kt v a.1.1 a.1.2 [])) :: argsB E ps a.2 (n + 1) k
 | .d _ :: ps, a, n, k => argsB E ps a.2 n k
 | .p _ :: ps, a, n, k => argsB E ps a.2 n k
 | .f1 _ _ :: ps, a, n, k => argsB E ps a.2 n k
 | .f2 _ _ _ :: ps, a, n, k => argsB E ps a.2 n k
def cntM (E : TE) : List Pm → Nat
 | [] => 0
 | .bm _ t m :: ps => cntO m (E.flat t) + cntM E ps
 | _ :: ps => cntM E ps
def cntA (E : TE) : List Pm → Nat
 | [] => 0
 | .l t m :: ps => cntO m (E.flat t) + cntA E ps
 | .g t m :: ps => cntO m (E.flat t) + cntA E ps
 | .b _ _ :: ps => 1 + cntA E ps
 | .bm _ t m :: ps => 1 + cntO m (E.flat t) + cntA E ps
 | .mp _ _ _ :: ps => 1 + cntA E ps
 | _ :: ps => cntA E ps
def cntR (E : TE) : Rs → Nat
 | [] => 0
 | p :: rs => cntO p.2 (E.flat p.1) + cntR E rs
def resV (E : TE) : (rs : Rs) → HL E.S rs.ts → Nat → Option (List (V1 E))
 | [], _, _ => some []
 | (t, m) :: rs, h, n => match asV E t (ownC E m (E.flat t) (E.fl t h.1) n), resV E rs h.2 (n + cntO m (E.flat t)) with
  | some v, some q => some (v :: q)
  | _, _ => none
def resO (E : TE) : (rs : Rs) → HL E.S rs.ts → Nat → Chs E
 | [], _, _ => []
 | (t, m) :: rs, h, n => ownO E m (E.flat t) (E.fl t h.1) n ++ resO E rs h.2 (n + cntO m (E.flat t))
def oneV (E : TE) : List (V1 E) → SV E
 | [x] => .v x
 | l => .tup l
abbrev InlF (E : TE) := (Nat → Option (Obj E)) → Nat → List (V1 E) → (R : Type) → (Option (SV E) → Chs E → Option R) → Option R
def lends : List Pm → Bool
 | [] => false
 | .l _ _ :: _ => true
 | .g _ _ :: _ => true
 | .b _ _ :: _ => true
 | .bm _ _ _ :: _ => true
 | .mp _ _ _ :: _ => true
 | _ :: ps => lends ps
structure Con (E : TE) where
 ps : List Pm
 rs : Rs
 ali : Bool
 F : (R : Type) → PA E ps → (HL E.S rs.ts → HL E.S (backs ps) → Option R) → Option R
 I : Option (InlF E)
def CallOK (P : Program) (E : TE) (f : FuncId) (ps : List Pm) (rs : Rs) (ali : Bool) (a : PA E ps) (rh : HL E.S rs.ts) (bh : HL E.S (backs ps)) : Prop :=
 ∀ (w : World) (z : Fz) (g : Ga) (Bs : List Nat) (svs : List (V1 E)) (vs : List Value), argsV E ps a 0 = some svs → HR P E Bs z.F w w z g (upH (fun _ => none) (argsO E ps a 0)) → Fresh g (cntA E ps) → All2 (R1 P E z g) svs vs →
  Ret P f vs.toArray w fun v w' => ∃ z' g' svr, z.Le z' ∧ (ali = false → z' = z) ∧ g.Le g' ∧ resV E rs rh (cntA E ps) = some svr ∧ RV P E z' g' (oneV E svr) v ∧
   HR P E Bs z.F w w' z' g' (upH (fun _ => none) (resO E rs rh (cntA E ps) ++ argsB E ps (putB E ps a bh) 0 (cntA E ps + cntR E rs)))
def Con.OK (P : Program) (E : TE) (f : FuncId) (C : Con E) : Prop :=
 ∀ (R : Type) (a : PA E C.ps) (k : HL E.S C.rs.ts → HL E.S (backs C.ps) → Option R) (r : R), C.F R a k = some r → ∃ rh bh, k rh bh = some r ∧ CallOK P E f C.ps C.rs C.ali a rh bh
section
variable {P : Program} {E : TE} {z z' : Fz} {g g' : Ga} {nx : Nat} {w w' w0 : World} {H H' : Nat → Option (Obj E)} {Bs : List Nat} {F0 : Nat → Prop}
def SC.ren (s : Nat → Nat) : SC E → SC E
 | .own id => .own (s id)
 | .ptr id off => .ptr (s id) off
 | c => c
def Obj.ren (s : Nat → Nat) : Obj E → Obj E
 | .box T cs => .box T (cs.map (SC.ren s))
 | o => o
end
end Rt
end Go
namespace Go
namespace Rt
open Go.RowKit
section
variable {P : Program} {E : TE} {z z' : Fz} {g g' : Ga} {nx : Nat} {w w' w0 : World} {H H' : Nat → Option (Obj E)} {Bs : List Nat} {F0 : Nat → Prop}
def V1.cs : V1 E → List (SC E)
 | .one c => [c]
 | .agg l => l
def V1.fits : Ty → V1 E → Bool
 | .st _, .agg _ => true
 | .st _, .one _ => false
 | _, .one _ => true
 | _, .agg _ => false
def takeD (E : TE) (H : Nat → Option (Obj E)) (t : Ty) (x : V1 E) : Option (Den E.S t) := match V1.fits t x, dataL E H (E.flat t) x.cs with
 | true, some h => some (E.ufl t h)
 | _, _ => none
theorem asV_ok {t : Ty} {x : V1 E} {l : List (SC E)} {v : Value} (hf : V1.fits t x = true) (hl : l.length = x.cs.length) (hr : R1 P E z g x v) (hlr : ∀ vs, All2 (RC P E z g) x.cs vs → All2 (RC P E z' g') l vs) :
  ∃ y, asV E t l = some y ∧ R1 P E z' g' y v := by
 cases x with
 | one c =>
  obtain ⟨d, rfl⟩ : ∃ d, l = [d] := by
   match l, hl with
   | [d], _ => exact ⟨d, rfl⟩
  have h1 := hlr [v] (.cons hr .nil)
  cases h1 with
  | cons h1 _ =>
   cases t with
   | st n => cases hf
   | _ => exact ⟨_, rfl, h1⟩
 | agg m =>
  obtain ⟨vs, rfl, hr⟩ := hr
  cases t with
  | st n => exact ⟨_, rfl, vs, rfl, hlr vs hr⟩
  | _ => cases hf
theorem dataL_len : ∀ {ts : List Ty} {cs : List (SC E)} {h : HL E.S ts}, dataL E H ts cs = some h → cs.length = ts.length
 | [], [], _, _ => rfl
 | t :: ts, c :: cs, h, e => by
  simp only [dataL] at e
  split at e
  ·cases e
  ·split at e
   ·rename_i hh
    simp [dataL_len hh]
   ·cases e
 | [], c :: cs, _, e => by simp [dataL] at e
 | t :: ts, [], _, e => by simp [dataL] at e
theorem hlc_len : ∀ (ts : List Ty) (h : HL E.S ts), (hlc E ts h).length = ts.length
 | [], _ => rfl
 | _ :: ts, h => by simp [hlc, hlc_len ts h.2]
theorem takeD_ok {t : Ty} {x : V1 E} {d : Den E.S t} {v : Value} (hH : HR P E Bs F0 w0 w z g H) (h : takeD E H t x = some d) (hr : R1 P E z g x v) (g' : Ga) : ∃ y, asV E t (E.cells t d) = some y ∧ R1 P E z g' y v := by
 unfold takeD at h
 split at h
 ·rename_i hd hf hh
  obtain rfl := Option.some.inj h
  refine asV_ok hf ?_ hr fun vs hvs => ?_
  ·unfold TE.cells; rw [hlc_len, dataL_len hh]
  ·refine cells_rd.1 ?_
   rw [E.fl_ufl]
   exact dataL_ok hH hh hvs
 ·cases h
def takeM (E : TE) (H : Nat → Option (Obj E)) : Mk → (ts : List Ty) → List (SC E) → Option (HL E.S ts × List Nat)
 | some e :: ms, .sl t :: ts, .own id :: cs => match H id with
  | some (.row e' t' xs _) => if ht : t' = t then match Nat.beq e e', takeM E H ms ts cs with
    | true, some q => some ((castL ht xs, q.1), id :: q.2)
    | _, _ => none
   else none
  | _ => none
 | none :: ms, t :: ts, c :: cs => match c.data H t, takeM E H ms ts cs with
  | some x, some q => some ((x, q.1), q.2)
  | _, _ => none
 | [], ts, cs => match dataL E H ts cs with
  | some h => some (h, [])
  | none => none
 | _, _, _ => none
def capsD (E : TE) (H : Nat → Option (Obj E)) : (ps : List Pm) → List Nat → Option (PA E ps)
 | [], [] => some ()
 | .p t :: ps, id :: ids => match H id with
  | some (.fb t' x) => if ht : t' = t then match capsD E H ps ids with
    | some a => some (ht ▸ x, a)
    | none => none
   else none
  | _ => none
 | _, _ => none
abbrev Tab (E : TE) := FuncId → Option (Con E)
def res1 {E : TE} {rs : Rs} {t : Ty} (h : rs = [(t, [])]) (x : HL E.S rs.ts) : Den E.S t := by subst h; exact x.1
def takeF1 (E : TE) (tab : Tab E) (H : Nat → Option (Obj E)) (x r : Ty) : SC E → Option (Den E.S x → Option (Den E.S r))
 | .fn1 x' r' f => if h : x' = x ∧ r' = r then some (h.1 ▸ h.2 ▸ f) else none
 | .clo f ids => match tab f with
  | some C => match hps : C.ps with
   | .d x' :: ps => if hx : x' = x then if hr : C.rs = [(r, [])] then match r.flatB && !C.ali, capsD E H ps ids with
      | true, some caps => some fun y => C.F (Den E.S r) (hps ▸ ((hx ▸ y, caps) : PA E (.d x' :: ps))) fun rh _ => some (res1 hr rh)
      | _, _ => none
     else none else none
   | _ => none
  | none => none
 | _ => none
def takeF2 (E : TE) (tab : Tab E) (H : Nat → Option (Obj E)) (x y r : Ty) : SC E → Option (Den E.S x → Den E.S y → Option (Den E.S r))
 | .fn2 x' y' r' f => if h : x' = x ∧ y' = y ∧ r' = r then some (h.1 ▸ h.2.1 ▸ h.2.2 ▸ f) else none
 | .clo f ids => match tab f with
  | some C => match hps : C.ps with
   | .d x' :: .d y' :: ps => if hx : x' = x then if hy : y' = y then if hr : C.rs = [(r, [])] then match r.flatB && !C.ali, capsD E H ps ids with
      | true, some caps => some fun u v => C.F (Den E.S r) (hps ▸ ((hx ▸ u, hy ▸ v, caps) : PA E (.d x' :: .d y' :: ps))) fun rh _ => some (res1 hr rh)
      | _, _ => none
     else none else none else none
   | _ => none
  | none => none
 | _ => none
def takeA (E : TE) (tab : Tab E) (H : Nat → Option (Obj E)) : (ps : List Pm) → List (V1 E) → Option (PA E ps × List Nat)
 | [], [] => some ((), [])
 | .d t :: ps, x :: xs => match takeD E H t x, takeA E tab H ps xs with
  | some d, some q => some ((d, q.1), q.2)
  | _, _ => none
 | .l t m :: ps, x :: xs => match V1.fits t x, takeM E H m (E.flat t) x.cs, takeA E tab H ps xs with
  | true, some d, some q => some ((E.ufl t d.1, q.1), d.2 ++ q.2)
  | _, _, _ => none
 | .g t m :: ps, x :: xs => match V1.fits t x, takeM E H m (E.flat t) x.cs, takeA E tab H ps xs with
  | true, some d, some q => some ((E.ufl t d.1, q.1), d.2 ++ q.2)
  | _, _, _ => none
 | .b T t :: ps, .one (.ptr id 0) :: xs => match H id, takeA E tab H ps xs with
  | some (.box T' cs), some q => match Nat.beq T T', dataL E H (E.flat t) cs with
   | true, some h => some ((E.ufl t h, q.1), id :: q.2)
   | _, _ => none
  | _, _ => none
 | .bm T t m :: ps, .one (.ptr id 0) :: xs => match H id, takeA E tab H ps xs with
  | some (.box T' cs), some q => match Nat.beq T T', takeM E H m (E.flat t) cs with
   | true, some d => some ((E.ufl t d.1, q.1), id :: (d.2 ++ q.2))
   | _, _ => none
  | _, _ => none
 | .mp T k v :: ps, .one (.mp id) :: xs => match H id, takeA E tab H ps xs with
  | some (.map T' k' v' ks vs _), some q => if ht : k' = k ∧ v' = v then match Nat.beq T T' with
    | true => some (((castL ht.1 ks, castL ht.2 vs), q.1), id :: q.2)
    | false => none
   else none
  | _, _ => none
 | .p t :: ps, .one (.elf t' x 0) :: xs => if ht : t' = t then match takeA E tab H ps xs with
   | some q => some ((ht ▸ x, q.1), q.2)
   | none => none
  else none
 | .p t :: ps, .one (.ptr id 0) :: xs => match H id with
  | some (.fb t' x) => if ht : t' = t then match takeA E tab H ps xs with
    | some q => some ((ht ▸ x, q.1), q.2)
    | none => none
   else none
  | _ => none
 | .f1 x r :: ps, .one c :: xs => match takeF1 E tab H x r c, takeA E tab H ps xs with
  | some f, some q => some ((f, q.1), q.2)
  | _, _ => none
 | .f2 x y r :: ps, .one c :: xs => match takeF2 E tab H x y r c, takeA E tab H ps xs with
  | some f, some q => some ((f, q.1), q.2)
  | _, _ => none
 | _, _ => none
def gOf (g : Ga) (I : List Nat) : Ga := fun i => match I[i]? with
 | some id => g id
 | none => none
def Cor (E : TE) (H : Nat → Option (Obj E)) (I : List Nat) : Obj E → Obj E → Prop
 | .row e t xs _, o => o = .row e t xs []
 | .map T k v ks vs _, o => o = .map T k v ks vs []
 | .box T cs, o => ∃ (t : Ty) (m : Mk) (d : HL E.S (E.flat t) × List Nat) (k : Nat), takeM E H m (E.flat t) cs = some d ∧ o = .box T (ownC E m (E.flat t) d.1 k) ∧ ∀ j id, d.2[j]? = some id → I[k + j]? = some id
 | _, _ => False
theorem ownO_cor {I : List Nat} {m : Mk} : ∀ {ts : List Ty} {cs : List (SC E)} {q : HL E.S ts × List Nat} {n : Nat}, takeM E H m ts cs = some q → (∀ j id, q.2[j]? = some id → I[n + j]? = some id) →
  (∀ i o, (i, o) ∈ ownO E m ts q.1 n → ∃ id o1 o2, I[i]? = some id ∧ H id = some o1 ∧ o = some o2 ∧ Cor E H I o1 o2) ∧ q.2.length = cntO m ts := by
 induction m with
 | nil =>
  intro ts cs q n h hI
  simp only [takeM] at h
  split at h
  ·obtain rfl := Option.some.inj h
   refine ⟨fun i o ho => ?_, ?_⟩
   ·cases ts <;> simp [ownO] at ho
   ·cases ts <;> simp [cntO]
  ·cases h
 | cons a m ih =>
  intro ts cs q n h hI
  cases ts with
  | nil => cases a <;> simp [takeM] at h
  | cons t ts =>
   cases a with
   | none =>
    cases cs with
    | nil => simp [takeM] at h
    | cons c cs =>
     simp only [takeM] at h
     split at h
     ·rename_i x q' _ hq
      obtain rfl := Option.some.inj h
      simp only [ownO, cntO]
      exact ih hq hI
     ·cases h
   | some e =>
    cases t with
    | sl t =>
     cases cs with
     | nil => simp [takeM] at h
     | cons c cs =>
      cases c with
      | own id =>
       simp only [takeM] at h
       split at h
       ·rename_i e' t' xs foc hi
        split at h
        ·rename_i ht
         subst ht
         split at h
         ·rename_i q' hb hq
          obtain rfl := Option.some.inj h
          obtain rfl := Nat.eq_of_beq_eq_true hb
          have h2 := ih (n := n + 1) hq fun j id' hj => by
           have := hI (j + 1) id' (by simpa using hj)
           rwa [show n + 1 + j = n + (j + 1) by omega]
          refine ⟨fun i o ho => ?_, by simp [cntO, h2.2]⟩
          simp only [ownO, List.mem_cons] at ho
          rcases ho with ho | ho
          ·simp only [Prod.mk.injEq] at ho
           obtain ⟨rfl, rfl⟩ := ho
           exact ⟨id, _, _, by simpa using hI 0 id (by simp), hi, rfl, rfl⟩
          ·exact h2.1 i o ho
         ·cases h
        ·cases h
       ·cases h
      | _ => simp [takeM] at h
    | _ => cases cs <;> simp [takeM] at h
end
end Rt
end Go
namespace Go
namespace Rt
open Go.RowKit
section
variable {P : Program} {E : TE} {z z' : Fz} {g g' : Ga} {nx : Nat} {w w' w0 : World} {H H' : Nat → Option (Obj E)} {Bs : List Nat} {F0 : Nat → Prop}
theorem takeM_val {I : List Nat} {m : Mk} (hH : HR P E Bs F0 w0 w z g H) : ∀ {ts : List Ty} {cs : List (SC E)} {q : HL E.S ts × List Nat} {n : Nat} {vs : List Value}, takeM E H m ts cs = some q → (∀ j id, q.2[j]? = some id → I[n + j]? = some id) →
  All2 (RC P E z g) cs vs → All2 (RC P E z (gOf g I)) (ownC E m ts q.1 n) vs ∧ cs.length = ts.length ∧ (ownC E m ts q.1 n).length = ts.length := by
 induction m with
 | nil =>
  intro ts cs q n vs h hI hv
  simp only [takeM] at h
  split at h
  ·rename_i hd hh
   obtain rfl := Option.some.inj h
   have e : ownC E ([] : Mk) ts hd n = hlc E ts hd := by cases ts <;> rfl
   rw [e]
   exact ⟨hlc_rd.1 (dataL_ok hH hh hv), dataL_len hh, hlc_len ts hd⟩
  ·cases h
 | cons a m ih =>
  intro ts cs q n vs h hI hv
  cases ts with
  | nil => cases a <;> simp [takeM] at h
  | cons t ts =>
   cases a with
   | none =>
    cases cs with
    | nil => simp [takeM] at h
    | cons c cs =>
     simp only [takeM] at h
     split at h
     ·rename_i x q' hx hq
      obtain rfl := Option.some.inj h
      cases hv with
      | cons h1 h2 =>
       obtain ⟨h3, h4, h5⟩ := ih hq hI h2
       simp only [ownC]
       exact ⟨.cons (SC.data_ok hH hx h1) h3, by simp [h4], by simp [h5]⟩
     ·cases h
   | some e =>
    cases t with
    | sl t =>
     cases cs with
     | nil => simp [takeM] at h
     | cons c cs =>
      cases c with
      | own id =>
       simp only [takeM] at h
       split at h
       ·rename_i e' t' xs foc hi
        split at h
        ·rename_i ht
         subst ht
         split at h
         ·rename_i q' hb hq
          obtain rfl := Option.some.inj h
          cases hv with
          | cons h1 h2 =>
           obtain ⟨h3, h4, h5⟩ := ih (n := n + 1) hq (fun j id' hj => by
            have := hI (j + 1) id' (by simpa using hj)
            rwa [show n + 1 + j = n + (j + 1) by omega]) h2
           simp only [ownC]
           have h0 : I[n]? = some id := by simpa using hI 0 id (by simp)
           obtain ⟨l, h6, h7⟩ := h1
           exact ⟨.cons ⟨l, by unfold gOf; rw [h0]; exact h6, h7⟩ h3, by simp [h4], by simp [h5]⟩
         ·cases h
        ·cases h
       ·cases h
      | _ => simp [takeM] at h
    | _ => cases cs <;> simp [takeM] at h
theorem capsD_ok (hH : HR P E Bs F0 w0 w z g H) (hz : z.Le z') (g' : Ga) : ∀ {ps : List Pm} {ids : List Nat} {a : PA E ps} {us : List Value} {n : Nat}, capsD E H ps ids = some a → All2 (fun id u => ∃ l, g id = some l ∧ u = Value.pointer (some ⟨l.b, 0, none⟩)) ids us →
  (∃ svs, argsV E ps a n = some svs ∧ All2 (R1 P E z' g') svs us) ∧ argsO E ps a n = [] ∧ cntA E ps = 0
 | [], [], a, us, n, h, hu => by
  cases hu
  exact ⟨⟨[], rfl, .nil⟩, rfl, rfl⟩
 | .p t :: ps, id :: ids, a, us, n, h, hu => by
  simp only [capsD] at h
  split at h
  ·rename_i t' x hi
   split at h
   ·rename_i ht
    subst ht
    split at h
    ·rename_i a' ha
     obtain rfl := Option.some.inj h
     cases hu with
     | cons h1 h2 =>
      obtain ⟨⟨svs, h3, h4⟩, h5, h6⟩ := capsD_ok hH hz g' (n := n) ha h2
      obtain ⟨l, h7, rfl⟩ := h1
      obtain ⟨l', r, h8, h9, h10, h11⟩ := hH.hold _ _ hi
      rw [h7] at h8; obtain rfl := Option.some.inj h8
      refine ⟨⟨.one (.elf t' x 0) :: svs, by simp only [argsV, h3], .cons ⟨l.b, 0, r, rfl, (hz _ h9).1, h10.le hz, fun j u hj => ?_⟩ h4⟩, h5, h6⟩
      rw [Nat.zero_add, World.cell?_of_block (w := z.w) (hz _ h9).2]
      exact h11 j u hj
    ·cases h
   ·cases h
  ·cases h
 | [], id :: ids, a, us, n, h, hu => by simp [capsD] at h
 | .p t :: ps, [], a, us, n, h, hu => by simp [capsD] at h
 | .d t :: ps, ids, a, us, n, h, hu => by simp [capsD] at h
 | .l t m :: ps, ids, a, us, n, h, hu => by simp [capsD] at h
 | .g t m :: ps, ids, a, us, n, h, hu => by simp [capsD] at h
 | .b T t :: ps, ids, a, us, n, h, hu => by simp [capsD] at h
 | .mp T k v :: ps, ids, a, us, n, h, hu => by simp [capsD] at h
 | .f1 x r :: ps, ids, a, us, n, h, hu => by simp [capsD] at h
 | .f2 x y r :: ps, ids, a, us, n, h, hu => by simp [capsD] at h
theorem HR.nothing {z : Fz} {w : World} (hz : z.In w) (g : Ga) : HR P E [] z.F w w z g (fun _ => none) :=
 ⟨Chg.of_below (Below.refl _ _), (fun _ _ h => by cases h), (fun _ _ _ h => by cases h), (fun _ _ _ _ _ _ h => by cases h), hz, (fun _ h => .inl h), (fun _ _ _ h => by cases h)⟩
def nxU (nx : Nat) : Chs E → Nat
 | [] => nx + 1
 | (i, none) :: l => match Nat.ble (nx + 1 + (l.length + 1)) (i + 1) with
  | true => i + 1
  | false => nx + 1 + (l.length + 1)
 | (_, some _) :: l => nx + 1 + (l.length + 1)
theorem nxU_le (nx : Nat) (u : Chs E) : nx + 1 + u.length ≤ nxU nx u := by
 unfold nxU
 split
 ·exact Nat.le_refl _
 ·split
  ·rename_i hb; exact Nat.le_of_ble_eq_true hb
  ·exact Nat.le_refl _
 ·exact Nat.le_refl _
theorem Fresh.nxU {g : Ga} {nx : Nat} {u : Chs E} (h : Fresh g (nx + 1 + u.length)) : Fresh g (nxU nx u) := fun i hi => h i (Nat.le_trans (nxU_le nx u) hi)
def InlOK (P : Program) (E : TE) (f : FuncId) (I : InlF E) : Prop :=
 ∀ {z : Fz} {g : Ga} {nx : Nat} {H : Nat → Option (Obj E)} {xs : List (V1 E)} {vs : List Value} {R : Type} {k : Option (SV E) → Chs E → Option R} {r : R} {Bs : List Nat} {F0 : Nat → Prop} {w0 w : World}, Fresh g nx → HR P E Bs F0 w0 w z g H → All2 (R1 P E z g) xs vs → I H nx xs R k = some r →
  Ret P f vs.toArray w fun v w' => ∃ s u z2 g2, k (some s) u = some r ∧ z.Le z2 ∧ g.Le g2 ∧ Fresh g2 (nxU nx u) ∧ RV P E z2 g2 s v ∧ HR P E Bs F0 w0 w' z2 g2 (upH H u)
def Tab.OK (P : Program) (E : TE) (tab : Tab E) : Prop := ∀ f C, tab f = some C → C.OK P E f ∧ bodyB P f = true ∧ ∀ I, C.I = some I → lends C.ps = true ∧ InlOK P E f I
theorem RT_asV {t : Ty} {x : Den E.S t} {v : Value} (h : RT E z t x v) (g : Ga) : ∃ y, asV E t (E.cells t x) = some y ∧ R1 P E z g y v := by
 cases t with
 | st n =>
  obtain ⟨vs, rfl, h⟩ := h
  exact ⟨_, rfl, vs, rfl, cells_rd (t := .st n).1 h⟩
 | int k => exact ⟨_, rfl, h⟩
 | bool => exact ⟨_, rfl, h⟩
 | str => exact ⟨_, rfl, h⟩
 | sl e => exact ⟨_, rfl, h⟩
theorem call_flat {f : FuncId} {ps : List Pm} {r : Ty} {a : PA E ps} {rh : HL E.S (Rs.ts [(r, [])])} {bh : HL E.S (backs ps)} {svs : List (V1 E)} {vs : List Value} (hr : r.flatB = true) (hc : CallOK P E f ps [(r, [])] false a rh bh) (hz : z.In w)
  (hs : argsV E ps a 0 = some svs) (ho : argsO E ps a 0 = []) (hv : All2 (R1 P E z fun _ => none) svs vs) :
  Ret P f vs.toArray w fun u w' => RD E z [r] (rh.1, ()) [u] ∧ Ext w w' := by
 have h := hc w z (fun _ => .none) [] svs vs hs (by rw [ho]; exact HR.nothing hz _) (fun _ _ => rfl) hv
 refine h.mono fun u w' ⟨z', g', svr, hle, hzz, _, hres, hrv, hHR⟩ => ?_
 obtain rfl := hzz rfl
 refine ⟨?_, Ext.of_below hHR.chg.below⟩
 have hsvr : svr = [.one (.dt r rh.1)] := by
  cases r with
  | int k => simp [resV, ownC, TE.flat, TE.fl, hlc, asV] at hres; exact hres.symm
  | bool => simp [resV, ownC, TE.flat, TE.fl, hlc, asV] at hres; exact hres.symm
  | str => simp [resV, ownC, TE.flat, TE.fl, hlc, asV] at hres; exact hres.symm
  | sl e => cases hr
  | st n => cases hr
 subst hsvr
 exact hrv
theorem takeF1_ok {tab : Tab E} (ht : tab.OK P E) {x r : Ty} {c : SC E} {f : Den E.S x → Option (Den E.S r)} {v : Value} (hH : HR P E Bs F0 w0 w z g H) (h : takeF1 E tab H x r c = some f) (hr : RC P E z g c v) : FnOK P E z v [x] r fun h => f h.1 := by
 unfold takeF1 at h
 split at h
 ·split at h
  ·rename_i hx
   obtain ⟨rfl, rfl⟩ := hx
   obtain rfl := Option.some.inj h
   exact hr
  ·cases h
 ·rename_i fid ids
  split at h
  ·rename_i C hC
   obtain ⟨hok, hbody, _⟩ := ht fid C hC
   obtain ⟨ps, rs, ali, F, I⟩ := C
   split at h
   ·rename_i x' ps' hps
    simp only at hps
    subst hps
    split at h
    ·rename_i hx
     subst hx
     split at h
     ·rename_i hrs
      simp only at hrs
      subst hrs
      split at h
      ·rename_i caps hb hcaps
       simp only [Bool.and_eq_true, Bool.not_eq_true'] at hb
       obtain ⟨hfl, rfl⟩ := hb
       obtain rfl := Option.some.inj h
       obtain ⟨us, rfl, hus⟩ := hr
       refine ⟨fid, us.toArray, rfl, ⟨hbody, hfl⟩, fun w1 z1 hh y args hz1 hin hargs hF => ?_⟩
       obtain ⟨rh, bh, hk, hcall⟩ := hok _ _ _ _ hF
       obtain ⟨v1, vs1, rfl, h1, h2⟩ := hargs
       simp only [RTs] at h2
       subst h2
       obtain ⟨⟨svs, h3, h4⟩, h5, h6⟩ := capsD_ok (P := P) hH hz1 (fun _ => .none) (n := 0) hcaps hus
       obtain ⟨sv, h7, h8⟩ := RT_asV (P := P) h1 (fun _ => .none)
       have := call_flat hfl hcall hin (svs := sv :: svs) (vs := v1 :: us) (by simp only [argsV, h7, h3]) h5 (.cons h8 h4)
       have e : (#[v1] ++ us.toArray : Array Value) = (v1 :: us).toArray := by simp
       have hy : rh.1 = y := by simpa [res1] using hk
       rw [show [v1].toArray = #[v1] from rfl, e, ← hy]
       exact this
      ·cases h
     ·cases h
    ·cases h
   ·cases h
  ·cases h
 ·cases h
theorem takeF2_ok {tab : Tab E} (ht : tab.OK P E) {x y r : Ty} {c : SC E} {f : Den E.S x → Den E.S y → Option (Den E.S r)} {v : Value} (hH : HR P E Bs F0 w0 w z g H) (h : takeF2 E tab H x y r c = some f) (hr : RC P E z g c v) : FnOK P E z v [x, y] r fun h => f h.1 h.2.1 := by
 unfold takeF2 at h
 split at h
 ·split at h
  ·rename_i hx
   obtain ⟨rfl, rfl, rfl⟩ := hx
   obtain rfl := Option.some.inj h
   exact hr
  ·cases h
 ·rename_i fid ids
  split at h
  ·rename_i C hC
   obtain ⟨hok, hbody, _⟩ := ht fid C hC
   obtain ⟨ps, rs, ali, F, I⟩ := C
   split at h
   ·rename_i x' y' ps' hps
    simp only at hps
    subst hps
    split at h
    ·rename_i hx
     subst hx
     split at h
     ·rename_i hy
      subst hy
      split at h
      ·rename_i hrs
       simp only at hrs
       subst hrs
       split at h
       ·rename_i caps hb hcaps
        simp only [Bool.and_eq_true, Bool.not_eq_true'] at hb
        obtain ⟨hfl, rfl⟩ := hb
        obtain rfl := Option.some.inj h
        obtain ⟨us, rfl, hus⟩ := hr
        refine ⟨fid, us.toArray, rfl, ⟨hbody, hfl⟩, fun w1 z1 hh y args hz1 hin hargs hF => ?_⟩
        obtain ⟨rh, bh, hk, hcall⟩ := hok _ _ _ _ hF
        obtain ⟨v1, vs1, rfl, h1, h2⟩ := hargs
        obtain ⟨v2, vs2, rfl, h2, h2'⟩ := h2
        simp only [RTs] at h2'
        subst h2'
        obtain ⟨⟨svs, h3, h4⟩, h5, h6⟩ := capsD_ok (P := P) hH hz1 (fun _ => .none) (n := 0) hcaps hus
        obtain ⟨sv, h7, h8⟩ := RT_asV (P := P) h1 (fun _ => .none)
        obtain ⟨sv2, h9, h10⟩ := RT_asV (P := P) h2 (fun _ => .none)
        have := call_flat hfl hcall hin (svs := sv :: sv2 :: svs) (vs := v1 :: v2 :: us) (by simp only [argsV, h7, h3, h9]) h5 (.cons h8 (.cons h10 h4))
        have e : (#[v1, v2] ++ us.toArray : Array Value) = (v1 :: v2 :: us).toArray := by simp
        have hy : rh.1 = y := by simpa [res1] using hk
        rw [show [v1, v2].toArray = #[v1, v2] from rfl, e, ← hy]
        exact this
       ·cases h
      ·cases h
     ·cases h
    ·cases h
   ·cases h
  ·cases h
 ·cases h
end
end Rt
end Go
namespace Go
namespace Rt
open Go.RowKit
section
variable {P : Program} {E : TE} {z z' : Fz} {g g' : Ga} {nx : Nat} {w w' w0 : World} {H H' : Nat → Option (Obj E)} {Bs : List Nat} {F0 : Nat → Prop}
theorem mem_off {I l m : List Nat} {n : Nat} (h : ∀ j id, (l ++ m)[j]? = some id → I[n + j]? = some id) : (∀ j id, l[j]? = some id → I[n + j]? = some id) ∧ ∀ j id, m[j]? = some id → I[n + l.length + j]? = some id := by
 refine ⟨fun j id hj => h j id ?_, fun j id hj => ?_⟩
 ·rw [List.getElem?_append_left (List.getElem?_eq_some_iff.1 hj).1]; exact hj
 ·rw [Nat.add_assoc]
  refine h _ id ?_
  rw [List.getElem?_append_right (by omega)]
  rw [show l.length + j - l.length = j by omega]
  exact hj
theorem ownC_nil {ts : List Ty} {h : HL E.S ts} {n : Nat} : ownC E [] ts h n = hlc E ts h := by cases ts <;> rfl
theorem takeM_nil {ts : List Ty} {cs : List (SC E)} {h : HL E.S ts} (hh : dataL E H ts cs = some h) : takeM E H [] ts cs = some (h, []) := by
 unfold takeM
 rw [hh]
theorem takeA_ok {tab : Tab E} (ht : tab.OK P E) (hH : HR P E Bs F0 w0 w z g H) {I : List Nat} : ∀ {ps : List Pm} {xs : List (V1 E)} {q : PA E ps × List Nat} {vs : List Value} {n : Nat}, takeA E tab H ps xs = some q → (∀ j id, q.2[j]? = some id → I[n + j]? = some id) →
  All2 (R1 P E z g) xs vs → (∃ svs, argsV E ps q.1 n = some svs ∧ All2 (R1 P E z (gOf g I)) svs vs) ∧ (∀ i o, (i, o) ∈ argsO E ps q.1 n → ∃ id o1 o2, I[i]? = some id ∧ H id = some o1 ∧ o = some o2 ∧ Cor E H I o1 o2) ∧ q.2.length = cntA E ps := by
 intro ps
 induction ps with
 | nil =>
  intro xs q vs n h hI hv
  cases xs with
  | nil =>
   simp only [takeA, Option.some.injEq] at h
   subst h
   cases hv
   exact ⟨⟨[], rfl, .nil⟩, fun i o ho => by simp [argsO] at ho, rfl⟩
  | cons x xs => simp [takeA] at h
 | cons p ps ih =>
  intro xs q vs n h hI hv
  cases xs with
  | nil => cases p <;> simp [takeA] at h
  | cons x xs =>
   cases hv with
   | @cons _ v _ vs' h1 h2 =>
    cases p with
    | d t =>
     simp only [takeA] at h
     split at h
     ·rename_i d q' hd hq
      obtain rfl := Option.some.inj h
      obtain ⟨⟨svs, e1, e2⟩, e3, e4⟩ := ih hq hI h2
      obtain ⟨y, e5, e6⟩ := takeD_ok hH hd h1 (gOf g I)
      exact ⟨⟨y :: svs, by simp only [argsV, e1, e5], .cons e6 e2⟩, e3, e4⟩
     ·cases h
    | l t m =>
     simp only [takeA] at h
     split at h
     ·rename_i d q' hf hd hq
      obtain rfl := Option.some.inj h
      obtain ⟨i1, i2⟩ := mem_off hI
      obtain ⟨e7, e8⟩ := ownO_cor hd i1
      obtain ⟨⟨svs, e1, e2⟩, e3, e4⟩ := ih hq i2 h2
      rw [e8] at e1 e3
      have hcs : ∀ vs, All2 (RC P E z g) x.cs vs → _ := fun vs hvs => takeM_val hH hd i1 hvs
      obtain ⟨y, e5, e6⟩ := asV_ok (z' := z) (g' := gOf g I) (l := ownC E m (E.flat t) d.1 n) hf (by
       have : ∃ vs, All2 (RC P E z g) x.cs vs := by
        cases x with
        | one c => exact ⟨[v], .cons h1 .nil⟩
        | agg l => obtain ⟨vs, _, h⟩ := h1; exact ⟨vs, h⟩
       obtain ⟨vs, hvs⟩ := this
       rw [(hcs vs hvs).2.1, (hcs vs hvs).2.2]) h1 fun vs hvs => (hcs vs hvs).1
      refine ⟨⟨y :: svs, by simp only [argsV, e1, E.fl_ufl, e5], .cons e6 e2⟩, fun i o ho => ?_, by simp only [List.length_append, e8, e4]; rfl⟩
      simp only [argsO, List.mem_append, E.fl_ufl] at ho
      rcases ho with ho | ho
      ·exact e7 i o ho
      ·exact e3 i o ho
     ·cases h
    | g t m =>
     simp only [takeA] at h
     split at h
     ·rename_i d q' hf hd hq
      obtain rfl := Option.some.inj h
      obtain ⟨i1, i2⟩ := mem_off hI
      obtain ⟨e7, e8⟩ := ownO_cor hd i1
      obtain ⟨⟨svs, e1, e2⟩, e3, e4⟩ := ih hq i2 h2
      rw [e8] at e1 e3
      have hcs : ∀ vs, All2 (RC P E z g) x.cs vs → _ := fun vs hvs => takeM_val hH hd i1 hvs
      obtain ⟨y, e5, e6⟩ := asV_ok (z' := z) (g' := gOf g I) (l := ownC E m (E.flat t) d.1 n) hf (by
       have : ∃ vs, All2 (RC P E z g) x.cs vs := by
        cases x with
        | one c => exact ⟨[v], .cons h1 .nil⟩
        | agg l => obtain ⟨vs, _, h⟩ := h1; exact ⟨vs, h⟩
       obtain ⟨vs, hvs⟩ := this
       rw [(hcs vs hvs).2.1, (hcs vs hvs).2.2]) h1 fun vs hvs => (hcs vs hvs).1
      refine ⟨⟨y :: svs, by simp only [argsV, e1, E.fl_ufl, e5], .cons e6 e2⟩, fun i o ho => ?_, by simp only [List.length_append, e8, e4]; rfl⟩
      simp only [argsO, List.mem_append, E.fl_ufl] at ho
      rcases ho with ho | ho
      ·exact e7 i o ho
      ·exact e3 i o ho
     ·cases h
    | b T t =>
     cases x with
     | agg l => simp [takeA] at h
     | one c =>
     cases c with
     | ptr id off =>
      cases off with
      | succ off => simp [takeA] at h
      | zero =>
      simp only [takeA] at h
      split at h
      ·rename_i T' cs q' hi hq
       split at h
       ·rename_i hd hb hh
        obtain rfl := Option.some.inj h
        obtain rfl := Nat.eq_of_beq_eq_true hb
        obtain ⟨⟨svs, e1, e2⟩, e3, e4⟩ := ih (n := n + 1) hq (fun j id' hj => by
         have := hI (j + 1) id' (by simpa using hj)
         rwa [show n + 1 + j = n + (j + 1) by omega]) h2
        have h0 : I[n]? = some id := by simpa using hI 0 id (by simp)
        obtain ⟨l, h6, h7⟩ := h1
        refine ⟨⟨.one (.ptr n 0) :: svs, by simp only [argsV, e1], .cons ⟨l, by unfold gOf; rw [h0]; exact h6, h7⟩ e2⟩, fun i o ho => ?_, by simp only [List.length_cons, e4, cntA]; omega⟩
        simp only [argsO, List.mem_cons, Prod.mk.injEq] at ho
        rcases ho with ⟨rfl, rfl⟩ | ho
        ·exact ⟨id, _, _, h0, hi, rfl, t, [], (hd, []), 0, takeM_nil hh, by rw [ownC_nil]; unfold TE.cells; rw [E.fl_ufl], fun j id' hj => by simp at hj⟩
        ·exact e3 i o ho
       ·cases h
      ·cases h
     | _ => simp [takeA] at h
    | bm T t m =>
     cases x with
     | agg l => simp [takeA] at h
     | one c =>
     cases c with
     | ptr id off =>
      cases off with
      | succ off => simp [takeA] at h
      | zero =>
      simp only [takeA] at h
      split at h
      ·rename_i T' cs q' hi hq
       split at h
       ·rename_i d hb hd
        obtain rfl := Option.some.inj h
        obtain rfl := Nat.eq_of_beq_eq_true hb
        have hI' : ∀ j id', (d.2 ++ q'.2)[j]? = some id' → I[n + 1 + j]? = some id' := fun j id' hj => by
         have := hI (j + 1) id' (by simpa using hj)
         rwa [show n + 1 + j = n + (j + 1) by omega]
        obtain ⟨i1, i2⟩ := mem_off hI'
        obtain ⟨e7, e8⟩ := ownO_cor (n := n + 1) hd i1
        obtain ⟨⟨svs, e1, e2⟩, e3, e4⟩ := ih hq i2 h2
        rw [e8] at e1 e3
        have h0 : I[n]? = some id := by simpa using hI 0 id (by simp)
        obtain ⟨l, h6, h7⟩ := h1
        refine ⟨⟨.one (.ptr n 0) :: svs, by simp only [argsV, e1], .cons ⟨l, by unfold gOf; rw [h0]; exact h6, h7⟩ e2⟩, fun i o ho => ?_, by simp only [List.length_cons, List.length_append, e8, e4, cntA]; omega⟩
        simp only [argsO, List.mem_cons, List.mem_append, Prod.mk.injEq, E.fl_ufl] at ho
        rcases ho with ⟨rfl, rfl⟩ | ho | ho
        ·exact ⟨id, _, _, h0, hi, rfl, t, m, d, _, hd, rfl, i1⟩
        ·exact e7 i o ho
        ·exact e3 i o ho
       ·cases h
      ·cases h
     | _ => simp [takeA] at h
    | mp T k v =>
     cases x with
     | agg l => simp [takeA] at h
     | one c =>
     cases c with
     | mp id =>
      simp only [takeA] at h
      split at h
      ·rename_i T' k' v' ks vs foc q' hi hq
       split at h
       ·rename_i ht
        obtain ⟨rfl, rfl⟩ := ht
        split at h
        ·rename_i hb
         obtain rfl := Option.some.inj h
         obtain rfl := Nat.eq_of_beq_eq_true hb
         obtain ⟨⟨svs, e1, e2⟩, e3, e4⟩ := ih (n := n + 1) hq (fun j id' hj => by
          have := hI (j + 1) id' (by simpa using hj)
          rwa [show n + 1 + j = n + (j + 1) by omega]) h2
         have h0 : I[n]? = some id := by simpa using hI 0 id (by simp)
         obtain ⟨l, h6, h7⟩ := h1
         refine ⟨⟨.one (.mp n) :: svs, by simp only [argsV, e1], .cons ⟨l, by unfold gOf; rw [h0]; exact h6, h7⟩ e2⟩, fun i o ho => ?_, by simp only [List.length_cons, e4, cntA]; omega⟩
         simp only [argsO, List.mem_cons, Prod.mk.injEq] at ho
         rcases ho with ⟨rfl, rfl⟩ | ho
         ·exact ⟨id, _, _, h0, hi, rfl, rfl⟩
         ·exact e3 i o ho
        ·cases h
       ·cases h
      ·cases h
     | _ => simp [takeA] at h
    | p t =>
     cases x with
     | agg l => simp [takeA] at h
     | one c =>
     cases c with
     | elf t' x' off =>
      cases off with
      | succ off => simp [takeA] at h
      | zero =>
      simp only [takeA] at h
      split at h
      ·rename_i htt
       subst htt
       split at h
       ·rename_i q' hq
        obtain rfl := Option.some.inj h
        obtain ⟨⟨svs, e1, e2⟩, e3, e4⟩ := ih hq hI h2
        exact ⟨⟨.one (.elf t' x' 0) :: svs, by simp only [argsV, e1], .cons h1 e2⟩, e3, e4⟩
       ·cases h
      ·cases h
     | ptr id off =>
      cases off with
      | succ off => simp [takeA] at h
      | zero =>
      simp only [takeA] at h
      split at h
      ·rename_i t' x' hi
       split at h
       ·rename_i htt
        subst htt
        split at h
        ·rename_i q' hq
         obtain rfl := Option.some.inj h
         obtain ⟨⟨svs, e1, e2⟩, e3, e4⟩ := ih hq hI h2
         obtain ⟨l, h7, rfl⟩ := h1
         obtain ⟨l', r, h8, h9, h10, h11⟩ := hH.hold _ _ hi
         rw [h7] at h8; obtain rfl := Option.some.inj h8
         exact ⟨⟨.one (.elf t' x' 0) :: svs, by simp only [argsV, e1], .cons ⟨l.b, 0, r, rfl, h9, h10, fun j u hj => by rw [Nat.zero_add]; exact h11 j u hj⟩ e2⟩, e3, e4⟩
        ·cases h
       ·cases h
      ·cases h
     | _ => simp [takeA] at h
    | f1 a r =>
     cases x with
     | agg l => simp [takeA] at h
     | one c =>
      simp only [takeA] at h
      split at h
      ·rename_i f q' hf hq
       obtain rfl := Option.some.inj h
       obtain ⟨⟨svs, e1, e2⟩, e3, e4⟩ := ih hq hI h2
       exact ⟨⟨.one (.fn1 a r f) :: svs, by simp only [argsV, e1], .cons (takeF1_ok ht hH hf h1) e2⟩, e3, e4⟩
      ·cases h
    | f2 a c r =>
     cases x with
     | agg l => simp [takeA] at h
     | one c =>
      simp only [takeA] at h
      split at h
      ·rename_i f q' hf hq
       obtain rfl := Option.some.inj h
       obtain ⟨⟨svs, e1, e2⟩, e3, e4⟩ := ih hq hI h2
       exact ⟨⟨.one (.fn2 a _ r f) :: svs, by simp only [argsV, e1], .cons (takeF2_ok ht hH hf h1) e2⟩, e3, e4⟩
      ·cases h
theorem upH_mem {i : Nat} {o : Obj E} : ∀ {l : Chs E}, upH (fun _ => none) l i = some o → (i, some o) ∈ l
 | [], h => by cases h
 | (j, p) :: l, h => by
  simp only [upH] at h
  split at h
  ·rename_i hb
   obtain rfl := Nat.eq_of_beq_eq_true hb
   subst h
   exact List.mem_cons_self ..
  ·exact List.mem_cons_of_mem _ (upH_mem h)
def blk (H : Nat → Option (Obj E)) (g : Ga) (id : Nat) : List Nat := match H id, g id with
 | some (.row ..), some l => match l.A with
  | some a => [a.block]
  | none => []
 | some (.box ..), some l => [l.b]
 | some (.map ..), some l => [l.b]
 | _, _ => []
theorem mem_blk {id k : Nat} : k ∈ blk H g id ↔ ∃ o, H id = some o ∧ fpO g id o k := by
 unfold blk
 cases hi : H id with
 | none => simp
 | some o =>
  cases hg : g id with
  | none => cases o <;> simp [fpO, hg]
  | some l =>
   cases o with
   | box T cs => simp [fpO, hg]
   | row e t xs foc =>
    cases hA : l.A with
    | none => simp [fpO, hg, hA]
    | some a => simp [fpO, hg, hA]
   | fr t xs => simp [fpO]
   | fb t x => simp [fpO]
   | map T k v ks vs foc => simp [fpO, hg]
theorem nodup_get {I : List Nat} (h : nodupB I = true) : ∀ {i j id : Nat}, I[i]? = some id → I[j]? = some id → i = j := by
 induction I with
 | nil => intro i j id h; simp at h
 | cons x I ih =>
  intro i j id hi hj
  simp only [nodupB, Bool.and_eq_true, Bool.not_eq_true'] at h
  have hx : ∀ k, I[k]? = some x → False := fun k hk => by
   have := List.mem_of_getElem? hk
   have h1 := h.1
   simp at h1
   exact h1 this
  cases i with
  | zero =>
   cases j with
   | zero => rfl
   | succ j => simp at hi hj; subst hi; exact (hx j hj).elim
  | succ i =>
   cases j with
   | zero => simp at hi hj; subst hj; exact (hx i hi).elim
   | succ j => simp at hi hj; rw [ih h.2 hi hj]
theorem Cor.obj {I : List Nat} {i id : Nat} {o1 o2 : Obj E} (hH : HR P E Bs F0 w0 w z g H) (hc : Cor E H I o1 o2) (hi : I[i]? = some id) (h : ObjR P E z g w id o1) : ObjR P E z (gOf g I) w i o2 ∧ ∀ k, fpO (gOf g I) i o2 k ↔ fpO g id o1 k := by
 have hg : gOf g I i = g id := by unfold gOf; rw [hi]
 cases o1 with
 | row e t xs foc =>
  simp only [Cor] at hc
  subst hc
  obtain ⟨l, rows, h1, hn, hcc, h2, h3, h4, h5, _⟩ := h
  refine ⟨⟨l, rows, by rw [hg]; exact h1, hn, hcc, h2, h3, h4, h5, fun p hp => nomatch hp⟩, fun k => ?_⟩
  simp only [fpO, hg]
 | box T cs =>
  obtain ⟨t, m, d, k, hd, rfl, hk⟩ := hc
  obtain ⟨l, vs, h1, h2, h3⟩ := h
  exact ⟨⟨l, vs, by rw [hg]; exact h1, h2, (takeM_val hH hd hk h3).1⟩, fun k => by simp only [fpO, hg]⟩
 | fr t xs => exact hc.elim
 | fb t x => exact hc.elim
 | map T k v ks vs foc =>
  obtain rfl : o2 = .map T k v ks vs [] := hc
  obtain ⟨l, es, c, h1, h2, h3, _⟩ := h
  exact ⟨⟨l, es, c, by rw [hg]; exact h1, h2, h3, fun p hp => nomatch hp⟩, fun k => by simp only [fpO, hg]⟩
theorem HR.entry (hH : HR P E Bs F0 w0 w z g H) {I : List Nat} (hn : nodupB I = true) {l : Chs E} (hl : ∀ i o, (i, o) ∈ l → ∃ id o1 o2, I[i]? = some id ∧ H id = some o1 ∧ o = some o2 ∧ Cor E H I o1 o2) :
  HR P E (I.map (blk H g)).flatten z.F w w z (gOf g I) (upH (fun _ => none) l) := by
 have key : ∀ i o, upH (fun _ => none) l i = some o → ∃ id o1, I[i]? = some id ∧ H id = some o1 ∧ ObjR P E z (gOf g I) w i o ∧ ∀ k, fpO (gOf g I) i o k ↔ fpO g id o1 k := fun i o h => by
  obtain ⟨id, o1, o2, h1, h2, h3, h4⟩ := hl i _ (upH_mem h)
  obtain rfl := Option.some.inj h3
  obtain ⟨h5, h6⟩ := h4.obj hH h1 (hH.hold _ _ h2)
  exact ⟨id, o1, h1, h2, h5, h6⟩
 refine ⟨Chg.of_below (Below.refl _ _), fun i o h => ?_, fun i o k h hk => ?_, fun i j o p k hij h h' hk hk' => ?_, hH.fz, fun k hk => .inl hk, fun i o k h hk hz => ?_⟩
 ·obtain ⟨_, _, _, _, h5, _⟩ := key i o h; exact h5
 ·obtain ⟨id, o1, h1, h2, _, h6⟩ := key i o h
  right
  refine List.mem_flatten.2 ⟨blk H g id, List.mem_map.2 ⟨id, List.mem_of_getElem? h1, rfl⟩, ?_⟩
  exact mem_blk.2 ⟨o1, h2, (h6 k).1 hk⟩
 ·obtain ⟨id, o1, h1, h2, _, h6⟩ := key i o h
  obtain ⟨id', o1', h1', h2', _, h6'⟩ := key j p h'
  refine hH.apart id id' o1 o1' k (fun e => ?_) h2 h2' ((h6 k).1 hk) ((h6' k).1 hk')
  subst e
  exact hij (nodup_get hn h1 h1')
 ·obtain ⟨id, o1, h1, h2, _, h6⟩ := key i o h
  exact hH.fza id o1 k h2 ((h6 k).1 hk) hz
theorem mem_blks {I : List Nat} {k : Nat} (h : k ∈ (I.map (blk H g)).flatten) : ∃ (i id : Nat) (o : Obj E), I[i]? = some id ∧ H id = some o ∧ fpO g id o k := by
 obtain ⟨l, hl, hk⟩ := List.mem_flatten.1 h
 obtain ⟨id, hid, rfl⟩ := List.mem_map.1 hl
 obtain ⟨i, hi⟩ := List.mem_iff_getElem?.1 hid
 obtain ⟨o, h1, h2⟩ := mem_blk.1 hk
 exact ⟨i, id, o, hi, h1, h2⟩
theorem HR.back2 {zb z2 : Fz} {g1 g2 : Ga} {Hb H1 H2 : Nat → Option (Obj E)} {Bs1 : List Nat} {Fe : Nat → Prop} {I : List Nat} {s : Nat → Nat → Prop} (hb : HR P E Bs F0 w0 w zb g Hb) (hx : HR P E Bs1 Fe w w' z' g1 H1)
  (hB : ∀ k, k ∈ Bs1 → ∃ id o, id ∈ I ∧ Hb id = some o ∧ fpO g id o k) (hg : g.Le g2)
  (hH : ∀ j o, H2 j = some o → (∃ i o1, s j i ∧ H1 i = some o1 ∧ (ObjR P E z2 g2 w' j o ∧ ∀ k, fpO g2 j o k ↔ fpO g1 i o1 k)) ∨ (j ∉ I ∧ Hb j = some o)) (hs : ∀ j j' i, s j i → s j' i → j = j')
  (hz : zb.Le z2) (hz2 : z2.In w') (hzn : ∀ k, z2.F k → zb.F k ∨ ((w.heap.size ≤ k ∨ k ∈ Bs1) ∧ z'.F k)) : HR P E Bs F0 w0 w' z2 g2 H2 := by
 have hlt : ∀ j o k, Hb j = some o → fpO g j o k → k < w.heap.size := fun j o k h hk => (hb.hold j o h).lt hk
 have hfar : ∀ j o k, j ∉ I → Hb j = some o → fpO g j o k → k ∉ Bs1 := fun j o k hj h hk hkB => by
  obtain ⟨id, o', h1, h2, h3⟩ := hB k hkB
  exact hb.apart j id o o' k (fun e => hj (e ▸ h1)) h h2 hk h3
 have hle : ∀ j o k, Hb j = some o → (fpO g2 j o k ↔ fpO g j o k) := fun j o k h => fpO_le (hb.hold j o h).loc hg
 have new : ∀ i o1 k, H1 i = some o1 → fpO g1 i o1 k → w.heap.size ≤ k ∨ k ∈ Bs1 := fun i o1 k h2 h3 => hx.own i o1 k h2 h3
 refine ⟨⟨hb.chg.grow.trans hx.chg.grow, fun k hk hn => ?_⟩, fun j o h => ?_, fun j o k h hk => ?_, fun j j' o p k hj h h' hk hk' => ?_, hz2, fun k hk => ?_, fun j o k h hk hzk => ?_⟩
 ·rw [hx.chg.block k (Nat.lt_of_lt_of_le hk hb.size) fun hkB => ?_]
  ·exact hb.chg.block k hk hn
  ·obtain ⟨id, o', h1, h2, h3⟩ := hB k hkB
   rcases hb.own id o' k h2 h3 with h4 | h4
   ·omega
   ·exact hn h4
 ·rcases hH j o h with ⟨i, o1, h1, h2, h9⟩ | ⟨h1, h2⟩
  ·exact h9.1
  ·exact (hb.hold j o h2).keep hz hg fun k hk => hx.chg.block k (hlt j o k h2 hk) (hfar j o k h1 h2 hk)
 ·rcases hH j o h with ⟨i, o1, h1, h2, h9⟩ | ⟨h1, h2⟩
  ·rcases new i o1 k h2 ((h9.2 k).1 hk) with h3 | h3
   ·exact .inl (Nat.le_trans hb.size h3)
   ·obtain ⟨id, o', h4, h5, h6⟩ := hB k h3
    exact hb.own id o' k h5 h6
  ·exact hb.own j o k h2 ((hle j o k h2).1 hk)
 ·rcases hH j o h with ⟨i, o1, h1, h2, h9⟩ | ⟨h1, h2⟩ <;> rcases hH j' p h' with ⟨i', o1', h1', h2', h9'⟩ | ⟨h1', h2'⟩
  ·refine hx.apart i i' o1 o1' k (fun e => hj (hs j j' i h1 (e ▸ h1'))) h2 h2' ((h9.2 k).1 hk) ((h9'.2 k).1 hk')
  ·have hk' := (hle j' p k h2').1 hk'
   rcases new i o1 k h2 ((h9.2 k).1 hk) with h3 | h3
   ·have := hlt j' p k h2' hk'; omega
   ·exact hfar j' p k h1' h2' hk' h3
  ·have hk := (hle j o k h2).1 hk
   rcases new i' o1' k h2' ((h9'.2 k).1 hk') with h3 | h3
   ·have := hlt j o k h2 hk; omega
   ·exact hfar j o k h1 h2 hk h3
  ·exact hb.apart j j' o p k hj h2 h2' ((hle j o k h2).1 hk) ((hle j' p k h2').1 hk')
 ·rcases hzn k hk with h1 | ⟨h1 | h1, _⟩
  ·exact hb.fz0 k h1
  ·exact .inr (.inl (Nat.le_trans hb.size h1))
  ·obtain ⟨id, o', _, h5, h6⟩ := hB k h1
   exact .inr (hb.own id o' k h5 h6)
 ·rcases hH j o h with ⟨i, o1, h1, h2, h9⟩ | ⟨h1, h2⟩
  ·rcases hzn k hzk with h3 | ⟨_, h3⟩
   ·rcases new i o1 k h2 ((h9.2 k).1 hk) with h4 | h4
    ·have := (hb.fz k h3).1; omega
    ·obtain ⟨id, o', _, h6, h7⟩ := hB k h4
     exact hb.fza id o' k h6 h7 h3
   ·exact hx.fza i o1 k h2 ((h9.2 k).1 hk) h3
  ·have hk := (hle j o k h2).1 hk
   rcases hzn k hzk with h3 | ⟨h3 | h3, _⟩
   ·exact hb.fza j o k h2 hk h3
   ·have := hlt j o k h2 hk; omega
   ·exact hfar j o k h1 h2 hk h3
theorem HR.back {zb z2 : Fz} {g1 g2 : Ga} {Hb H1 H2 : Nat → Option (Obj E)} {Bs1 : List Nat} {Fe : Nat → Prop} {I : List Nat} {s : Nat → Nat → Prop} (hb : HR P E Bs F0 w0 w zb g Hb) (hx : HR P E Bs1 Fe w w' z' g1 H1)
  (hB : ∀ k, k ∈ Bs1 → ∃ id o, id ∈ I ∧ Hb id = some o ∧ fpO g id o k) (hg : g.Le g2)
  (hH : ∀ j o, H2 j = some o → (∃ i, s j i ∧ H1 i = some o) ∨ (j ∉ I ∧ Hb j = some o)) (hs : ∀ j j' i, s j i → s j' i → j = j')
  (hT : ∀ j i o, s j i → H1 i = some o → ObjR P E z2 g2 w' j o ∧ ∀ k, fpO g2 j o k ↔ fpO g1 i o k)
  (hz : zb.Le z2) (hz2 : z2.In w') (hzn : ∀ k, z2.F k → zb.F k ∨ ((w.heap.size ≤ k ∨ k ∈ Bs1) ∧ z'.F k)) : HR P E Bs F0 w0 w' z2 g2 H2 :=
 hb.back2 hx hB hg (fun j o h => (hH j o h).imp (fun ⟨i, h1, h2⟩ => ⟨i, o, h1, h2, hT j i o h1 h2⟩) id) hs hz hz2 hzn
end
end Rt
end Go
namespace Go
namespace Rt
open Go.RowKit
section
variable {P : Program} {E : TE} {z z' : Fz} {g g' : Ga} {nx : Nat} {w w' w0 : World} {H H' : Nat → Option (Obj E)} {Bs : List Nat} {F0 : Nat → Prop}
def frzCaps (E : TE) (H : Nat → Option (Obj E)) : List Nat → Chs E
 | [] => []
 | id :: ids => (match upH H (frzCaps E H ids) id with
  | some (.box T cs) => match E.ty T with
   | some t => match dataL E (upH H (frzCaps E H ids)) (E.flat t) cs with
    | some h => [(id, some (.fb t (E.ufl t h)))]
    | none => []
   | none => []
  | _ => []) ++ frzCaps E H ids
theorem frzCaps_ok (h : HR P E Bs F0 w0 w z g H) : ∀ (l : List Nat), ∃ z', z.Le z' ∧ HR P E Bs F0 w0 w z' g (upH H (frzCaps E H l))
 | [] => ⟨z, Fz.Le.refl z, h⟩
 | id :: l => by
  obtain ⟨z1, h1, h2⟩ := frzCaps_ok h l
  unfold frzCaps
  split
  ·rename_i T cs hi
   split
   ·rename_i t ht
    split
    ·rename_i hd hh
     refine ⟨_, h1.trans (h2.fz.grow_le _), h2.freezeBox (t := t) (x := E.ufl t hd) hi (fun vs hvs => ?_) fun j q hj => ?_⟩
     ·rw [E.fl_ufl]; exact dataL_ok h2 hh hvs
     ·rw [← upH_append] at hj
      exact upH_one hj
    ·exact ⟨z1, h1, h2⟩
   ·exact ⟨z1, h1, h2⟩
  ·exact ⟨z1, h1, h2⟩
def unM : Mk → List (SC E) → List (SC E)
 | some _ :: ms, _ :: cs => unM ms cs
 | none :: ms, c :: cs => c :: unM ms cs
 | [], cs => cs
 | _, [] => []
def frzF (E : TE) (H : Nat → Option (Obj E)) : List (SC E) → Chs E
 | [.clo _ ids] => frzCaps E H ids
 | [.ptr id 0] => frzCaps E H [id]
 | _ => []
def frzB (E : TE) (H : Nat → Option (Obj E)) (m : Mk) : List (SC E) → Chs E
 | [.ptr id 0] => match H id with
  | some (.box _ cs) => frzL H (unM m cs)
  | _ => []
 | _ => []
def frzQ (E : TE) (H : Nat → Option (Obj E)) : Pm → V1 E → Chs E
 | .d _, x => frzL H x.cs
 | .l _ m, x => frzL H (unM m x.cs)
 | .g _ m, x => frzL H (unM m x.cs)
 | .b _ _, _ => []
 | .bm _ _ m, x => frzB E H m x.cs
 | .mp _ _ _, _ => []
 | _, x => frzF E H x.cs
def frzP (E : TE) (H : Nat → Option (Obj E)) : List Pm → List (V1 E) → Chs E
 | p :: ps, x :: xs => frzQ E (upH H (frzP E H ps xs)) p x ++ frzP E H ps xs
 | _, _ => []
theorem frzF_ok (h : HR P E Bs F0 w0 w z g H) (l : List (SC E)) : ∃ z', z.Le z' ∧ HR P E Bs F0 w0 w z' g (upH H (frzF E H l)) := by
 unfold frzF
 split
 ·exact frzCaps_ok h _
 ·exact frzCaps_ok h _
 ·exact ⟨z, Fz.Le.refl z, h⟩
theorem frzB_ok (h : HR P E Bs F0 w0 w z g H) (m : Mk) (l : List (SC E)) : ∃ z', z.Le z' ∧ HR P E Bs F0 w0 w z' g (upH H (frzB E H m l)) := by
 unfold frzB
 split
 ·split
  ·exact frzL_ok h _
  ·exact ⟨z, Fz.Le.refl z, h⟩
 ·exact ⟨z, Fz.Le.refl z, h⟩
theorem frzQ_ok (h : HR P E Bs F0 w0 w z g H) (p : Pm) (x : V1 E) : ∃ z', z.Le z' ∧ HR P E Bs F0 w0 w z' g (upH H (frzQ E H p x)) := by
 cases p with
 | d t => exact frzL_ok h _
 | l t m => exact frzL_ok h _
 | g t m => exact frzL_ok h _
 | b T t => exact ⟨z, Fz.Le.refl z, h⟩
 | bm T t m => exact frzB_ok h _ _
 | mp T k v => exact ⟨z, Fz.Le.refl z, h⟩
 | p t => exact frzF_ok h _
 | f1 a r => exact frzF_ok h _
 | f2 a b r => exact frzF_ok h _
theorem frzP_ok (h : HR P E Bs F0 w0 w z g H) : ∀ (ps : List Pm) (xs : List (V1 E)), ∃ z', z.Le z' ∧ HR P E Bs F0 w0 w z' g (upH H (frzP E H ps xs))
 | [], _ => ⟨z, Fz.Le.refl z, h⟩
 | _ :: _, [] => ⟨z, Fz.Le.refl z, h⟩
 | p :: ps, x :: xs => by
  obtain ⟨z1, h1, h2⟩ := frzP_ok h ps xs
  obtain ⟨z2, h3, h4⟩ := frzQ_ok h2 p x
  rw [upH_append] at h4
  exact ⟨z2, h1.trans h3, h4⟩
def OnlyF (u : Chs E) : Prop := ∀ i o, (i, o) ∈ u → (∃ t xs, o = some (.fr t xs)) ∨ ∃ t x, o = some (.fb t x)
theorem OnlyF.append {u v : Chs E} (h : OnlyF u) (h' : OnlyF v) : OnlyF (u ++ v) := fun i o hm => by
 rcases List.mem_append.1 hm with hm | hm
 ·exact h i o hm
 ·exact h' i o hm
theorem frz1_only (H : Nat → Option (Obj E)) (c : SC E) : OnlyF (frz1 H c) := by
 unfold frz1
 split
 ·split
  ·intro i o hm
   simp only [List.mem_singleton, Prod.mk.injEq] at hm
   exact .inl ⟨_, _, hm.2⟩
  ·intro i o hm; cases hm
 ·intro i o hm; cases hm
theorem frzL_only (H : Nat → Option (Obj E)) : ∀ (l : List (SC E)), OnlyF (frzL H l)
 | [] => fun i o hm => by cases hm
 | c :: l => (frz1_only _ c).append (frzL_only H l)
theorem frzCaps_only (H : Nat → Option (Obj E)) : ∀ (l : List Nat), OnlyF (frzCaps E H l)
 | [] => fun i o hm => by cases hm
 | id :: l => by
  unfold frzCaps
  refine OnlyF.append ?_ (frzCaps_only H l)
  split
  ·split
   ·split
    ·intro i o hm
     simp only [List.mem_singleton, Prod.mk.injEq] at hm
     exact .inr ⟨_, _, hm.2⟩
    ·intro i o hm; cases hm
   ·intro i o hm; cases hm
  ·intro i o hm; cases hm
theorem frzF_only (H : Nat → Option (Obj E)) (l : List (SC E)) : OnlyF (frzF E H l) := by
 unfold frzF
 split
 ·exact frzCaps_only H _
 ·exact frzCaps_only H _
 ·intro i o hm; cases hm
theorem frzB_only (H : Nat → Option (Obj E)) (m : Mk) (l : List (SC E)) : OnlyF (frzB E H m l) := by
 unfold frzB
 split
 ·split
  ·exact frzL_only H _
  ·intro i o hm; cases hm
 ·intro i o hm; cases hm
theorem frzP_only (H : Nat → Option (Obj E)) : ∀ (ps : List Pm) (xs : List (V1 E)), OnlyF (frzP E H ps xs)
 | [], _ => fun i o hm => by simp [frzP] at hm
 | _ :: _, [] => fun i o hm => by simp [frzP] at hm
 | p :: ps, x :: xs => by
  refine OnlyF.append ?_ (frzP_only H ps xs)
  cases p with
  | d t => exact frzL_only _ _
  | l t m => exact frzL_only _ _
  | g t m => exact frzL_only _ _
  | b T t => intro i o hm; cases hm
  | bm T t m => exact frzB_only _ _ _
  | mp T k v => intro i o hm; cases hm
  | p t => exact frzF_only _ _
  | f1 a r => exact frzF_only _ _
  | f2 a b r => exact frzF_only _ _
theorem upH_or {i : Nat} {o : Obj E} : ∀ {u : Chs E}, upH H u i = some o → H i = some o ∨ (i, some o) ∈ u
 | [], h => .inl h
 | (j, p) :: u, h => by
  simp only [upH] at h
  split at h
  ·rename_i hb
   obtain rfl := Nat.eq_of_beq_eq_true hb
   subst h
   exact .inr (List.mem_cons_self ..)
  ·rcases upH_or h with h | h
   ·exact .inl h
   ·exact .inr (List.mem_cons_of_mem _ h)
theorem RD.flat : ∀ {ts : List Ty} {h : HL E.S ts} {vs : List Value}, ts.all Ty.flatB = true → RD E z ts h vs → RD E z' ts h vs
 | [], h, vs, _, r => by rw [r.nil_inv]; exact .nil
 | .int k :: ts, h, vs, hf, r => by
  obtain ⟨vs', rfl, r'⟩ := r.int_inv
  exact .int (RD.flat (by simpa [Ty.flatB] using hf) r')
 | .bool :: ts, h, vs, hf, r => by
  obtain ⟨vs', rfl, r'⟩ := r.bool_inv
  exact .bool (RD.flat (by simpa [Ty.flatB] using hf) r')
 | .str :: ts, h, vs, hf, r => by
  obtain ⟨vs', rfl, r'⟩ := r.str_inv
  exact .str (RD.flat (by simpa [Ty.flatB] using hf) r')
 | .sl e :: ts, h, vs, hf, r => by simp [Ty.flatB] at hf
 | .st n :: ts, h, vs, hf, r => by simp [Ty.flatB] at hf
def flatT (E : TE) (t : Ty) : Bool := (E.flat t).all Ty.flatB
theorem Rows.flat {t : Ty} {xs : List (Den E.S t)} {rows : List (List Value)} (hf : flatT E t = true) (h : Rows E z t xs rows) : Rows E z' t xs rows := fun i x r h1 h2 => (h i x r h1 h2).flat hf
def flatM (E : TE) : Mk → List Ty → Bool
 | some _ :: ms, .sl t :: ts => flatT E t && flatM E ms ts
 | none :: ms, t :: ts => t.flatB && flatM E ms ts
 | _, ts => ts.all Ty.flatB
def flatO (E : TE) : Mk → List Ty → Bool
 | some _ :: ms, .sl t :: ts => flatT E t && flatO E ms ts
 | none :: ms, _ :: ts => flatO E ms ts
 | _, _ => true
def flatRs (E : TE) : Rs → Bool
 | [] => true
 | p :: rs => flatM E p.2 (E.flat p.1) && flatRs E rs
def flatPs (E : TE) : List Pm → Bool
 | [] => true
 | .l t m :: ps => flatO E m (E.flat t) && flatPs E ps
 | .g _ _ :: ps => flatPs E ps
 | .b _ t :: ps => flatT E t && flatPs E ps
 | .bm _ t m :: ps => flatM E m (E.flat t) && flatPs E ps
 | _ :: ps => flatPs E ps
theorem flatM_O : ∀ {m : Mk} {ts : List Ty}, flatM E m ts = true → flatO E m ts = true := by
 intro m
 induction m with
 | nil => intro ts _; cases ts <;> rfl
 | cons a m ih =>
  intro ts h
  cases ts with
  | nil => cases a <;> rfl
  | cons t ts =>
   cases a with
   | none => simp only [flatM, Bool.and_eq_true] at h; simp only [flatO]; exact ih h.2
   | some e =>
    cases t with
    | sl t => simp only [flatM, Bool.and_eq_true] at h; simp only [flatO, Bool.and_eq_true]; exact ⟨h.1, ih h.2⟩
    | _ => rfl
def FlatC : SC E → Prop
 | .dt t _ => t.flatB = true
 | .own _ => True
 | _ => False
def FlatObj (E : TE) : Obj E → Prop
 | .row _ t _ foc => flatT E t = true ∧ foc = []
 | .map _ _ _ _ _ foc => foc = []
 | .box _ cs => ∀ c ∈ cs, FlatC c
 | _ => False
theorem hlc_flat : ∀ {ts : List Ty} {h : HL E.S ts}, ts.all Ty.flatB = true → ∀ c ∈ hlc E ts h, FlatC c
 | [], _, _, _, hc => by cases hc
 | t :: ts, h, hf, c, hc => by
  simp only [List.all_cons, Bool.and_eq_true] at hf
  simp only [hlc] at hc
  rcases List.mem_cons.1 hc with rfl | hc
  ·exact hf.1
  ·exact hlc_flat hf.2 c hc
theorem ownC_flat {m : Mk} : ∀ {ts : List Ty} {h : HL E.S ts} {n : Nat}, flatM E m ts = true → ∀ c ∈ ownC E m ts h n, FlatC c := by
 induction m with
 | nil => intro ts h n hf; cases ts <;> exact hlc_flat hf
 | cons a m ih =>
  intro ts h n hf
  cases ts with
  | nil => cases a <;> (intro c hc; cases hc)
  | cons t ts =>
   cases a with
   | none =>
    simp only [flatM, Bool.and_eq_true] at hf
    intro c hc
    simp only [ownC] at hc
    rcases List.mem_cons.1 hc with rfl | hc
    ·exact hf.1
    ·exact ih hf.2 c hc
   | some e =>
    cases t with
    | sl t =>
     simp only [flatM, Bool.and_eq_true] at hf
     intro c hc
     simp only [ownC] at hc
     rcases List.mem_cons.1 hc with rfl | hc
     ·trivial
     ·exact ih hf.2 c hc
    | _ => exact hlc_flat hf
theorem ownO_flat {m : Mk} : ∀ {ts : List Ty} {h : HL E.S ts} {n : Nat}, flatO E m ts = true → ∀ i o, (i, o) ∈ ownO E m ts h n → ∃ p, o = some p ∧ FlatObj E p := by
 induction m with
 | nil => intro ts h n _ i o ho; cases ts <;> simp [ownO] at ho
 | cons a m ih =>
  intro ts h n hf i o ho
  cases ts with
  | nil => cases a <;> simp [ownO] at ho
  | cons t ts =>
   cases a with
   | none => simp only [flatO] at hf; simp only [ownO] at ho; exact ih hf i o ho
   | some e =>
    cases t with
    | sl t =>
     simp only [flatO, Bool.and_eq_true] at hf
     simp only [ownO, List.mem_cons, Prod.mk.injEq] at ho
     rcases ho with ⟨rfl, rfl⟩ | ho
     ·exact ⟨_, rfl, hf.1, rfl⟩
     ·exact ih hf.2 i o ho
    | _ => simp [ownO] at ho
theorem resO_flat : ∀ {rs : Rs} {h : HL E.S rs.ts} {n : Nat}, flatRs E rs = true → ∀ i o, (i, o) ∈ resO E rs h n → ∃ p, o = some p ∧ FlatObj E p
 | [], h, n, _, i, o, ho => by simp [resO] at ho
 | (t, m) :: rs, h, n, hf, i, o, ho => by
  simp only [flatRs, Bool.and_eq_true] at hf
  simp only [resO, List.mem_append] at ho
  rcases ho with ho | ho
  ·exact ownO_flat (flatM_O hf.1) i o ho
  ·exact resO_flat hf.2 i o ho
theorem argsB_flat : ∀ {ps : List Pm} {a : PA E ps} {n k : Nat}, flatPs E ps = true → ∀ i o, (i, o) ∈ argsB E ps a n k → ∃ p, o = some p ∧ FlatObj E p
 | [], a, n, k, _, i, o, ho => by simp [argsB] at ho
 | .l t m :: ps, a, n, k, hf, i, o, ho => by
  simp only [flatPs, Bool.and_eq_true] at hf
  simp only [argsB, List.mem_append] at ho
  rcases ho with ho | ho
  ·exact ownO_flat hf.1 i o ho
  ·exact argsB_flat hf.2 i o ho
 | .b T t :: ps, a, n, k, hf, i, o, ho => by
  simp only [flatPs, Bool.and_eq_true] at hf
  simp only [argsB, List.mem_cons, Prod.mk.injEq] at ho
  rcases ho with ⟨rfl, rfl⟩ | ho
  ·exact ⟨_, rfl, hlc_flat hf.1⟩
  ·exact argsB_flat hf.2 i o ho
 | .bm T t m :: ps, a, n, k, hf, i, o, ho => by
  simp only [flatPs, Bool.and_eq_true] at hf
  simp only [argsB, List.mem_cons, List.mem_append, Prod.mk.injEq] at ho
  rcases ho with ⟨rfl, rfl⟩ | ho | ho
  ·exact ⟨_, rfl, ownC_flat hf.1⟩
  ·exact ownO_flat (flatM_O hf.1) i o ho
  ·exact argsB_flat hf.2 i o ho
 | .g t m :: ps, a, n, k, hf, i, o, ho => argsB_flat (ps := ps) (a := a.2) hf i o ho
 | .mp T kt v :: ps, a, n, k, hf, i, o, ho => by
  simp only [argsB, List.mem_cons, Prod.mk.injEq] at ho
  rcases ho with ⟨rfl, rfl⟩ | ho
  ·exact ⟨_, rfl, rfl⟩
  ·exact argsB_flat (ps := ps) hf i o ho
 | .d t :: ps, a, n, k, hf, i, o, ho => argsB_flat (ps := ps) (a := a.2) hf i o ho
 | .p t :: ps, a, n, k, hf, i, o, ho => argsB_flat (ps := ps) (a := a.2) hf i o ho
 | .f1 x r :: ps, a, n, k, hf, i, o, ho => argsB_flat (ps := ps) (a := a.2) hf i o ho
 | .f2 x y r :: ps, a, n, k, hf, i, o, ho => argsB_flat (ps := ps) (a := a.2) hf i o ho
def PlainC (K : Nat → Prop) : SC E → Prop
 | .dt _ _ => True
 | .own id => K id
 | _ => False
theorem hlc_plain {K : Nat → Prop} : ∀ {ts : List Ty} {h : HL E.S ts}, ∀ c ∈ hlc E ts h, PlainC K c
 | [], _, _, hc => by cases hc
 | t :: ts, h, c, hc => by
  simp only [hlc] at hc
  rcases List.mem_cons.1 hc with rfl | hc
  ·trivial
  ·exact hlc_plain c hc
theorem ownC_plain {K : Nat → Prop} {m : Mk} : ∀ {ts : List Ty} {h : HL E.S ts} {n : Nat}, (∀ i, i < cntO m ts → K (n + i)) → ∀ c ∈ ownC E m ts h n, PlainC K c := by
 induction m with
 | nil => intro ts h n _; cases ts <;> exact hlc_plain
 | cons a m ih =>
  intro ts h n hK
  cases ts with
  | nil => cases a <;> (intro c hc; cases hc)
  | cons t ts =>
   cases a with
   | none =>
    intro c hc
    simp only [ownC] at hc
    rcases List.mem_cons.1 hc with rfl | hc
    ·trivial
    ·exact ih hK c hc
   | some e =>
    cases t with
    | sl t =>
     intro c hc
     simp only [ownC] at hc
     rcases List.mem_cons.1 hc with rfl | hc
     ·exact hK 0 (by simp only [cntO]; omega)
     ·refine ih (n := n + 1) (fun i hi => ?_) c hc
      have := hK (i + 1) (by simp only [cntO]; omega)
      rwa [show n + 1 + i = n + (i + 1) by omega]
    | _ => exact hlc_plain
theorem RC.ren {K : Nat → Prop} {s : Nat → Nat} {c : SC E} {v : Value} (hp : PlainC K c) (hK : ∀ i l, K i → g i = some l → g' (s i) = some l) (hz : z = z' ∨ FlatC c) (h : RC P E z g c v) : RC P E z' g' (SC.ren s c) v := by
 cases c with
 | dt t x =>
  rcases hz with rfl | hz
  ·exact h
  ·exact RD.flat (ts := [t]) (by simpa [FlatC] using hz) h
 | own id =>
  obtain ⟨l, h1, h2⟩ := h
  exact ⟨l, hK id l hp h1, h2⟩
 | _ => exact hp.elim
theorem RCs.ren {K : Nat → Prop} {s : Nat → Nat} (hK : ∀ i l, K i → g i = some l → g' (s i) = some l) : ∀ {cs : List (SC E)} {vs : List Value}, (∀ c ∈ cs, PlainC K c) → (z = z' ∨ ∀ c ∈ cs, FlatC c) → All2 (RC P E z g) cs vs → All2 (RC P E z' g') (cs.map (SC.ren s)) vs
 | [], _, _, _, h => by cases h; exact .nil
 | c :: cs, _, hp, hz, h => by
  cases h with
  | cons h1 h2 => exact .cons (h1.ren (hp c (List.mem_cons_self ..)) hK (hz.imp id fun f => f c (List.mem_cons_self ..))) (RCs.ren hK (fun d hd => hp d (List.mem_cons_of_mem _ hd)) (hz.imp id fun f d hd => f d (List.mem_cons_of_mem _ hd)) h2)
def Plain (E : TE) (K : Nat → Prop) : Obj E → Prop
 | .row _ _ _ foc => foc = []
 | .map _ _ _ _ _ foc => foc = []
 | .box _ cs => ∀ c ∈ cs, PlainC K c
 | _ => False
theorem ObjR.move2 {K : Nat → Prop} {s : Nat → Nat} {i j : Nat} {o : Obj E} (hp : Plain E K o) (hK : ∀ i l, K i → g i = some l → g' (s i) = some l) (hz : z = z' ∨ FlatObj E o) (hg : g' j = g i) (h : ObjR P E z g w i o) : ObjR P E z' g' w j (Obj.ren s o) ∧ ∀ k, fpO g' j (Obj.ren s o) k ↔ fpO g i o k := by
 cases o with
 | row e t xs foc =>
  simp only [Plain] at hp
  subst hp
  obtain ⟨l, rows, h1, hn, hc, h2, h3, h4, h5, _⟩ := h
  refine ⟨⟨l, rows, by rw [hg]; exact h1, hn, hc, h2, h3, h4, ?_, fun p hp => nomatch hp⟩, fun k => by simp only [Obj.ren, fpO, hg]⟩
  rcases hz with rfl | hz
  ·exact h5
  ·exact h5.flat hz.1
 | box T cs =>
  obtain ⟨l, vs, h1, h2, h3⟩ := h
  exact ⟨⟨l, vs, by rw [hg]; exact h1, h2, RCs.ren hK hp hz h3⟩, fun k => by simp only [Obj.ren, fpO, hg]⟩
 | fr t xs => exact hp.elim
 | fb t x => exact hp.elim
 | map T k v ks vs foc =>
  simp only [Plain] at hp
  subst hp
  obtain ⟨l, es, c, h1, h2, h3, _⟩ := h
  exact ⟨⟨l, es, c, by rw [hg]; exact h1, h2, h3, fun p hp => nomatch hp⟩, fun k => by simp only [Obj.ren, fpO, hg]⟩
theorem SC.ren_id (c : SC E) : SC.ren (fun i => i) c = c := by cases c <;> rfl
theorem Obj.ren_id (o : Obj E) : Obj.ren (fun i => i) o = o := by
 cases o with
 | box T cs =>
  have : cs.map (SC.ren fun i => i) = cs := by
   induction cs with
   | nil => rfl
   | cons c cs ih => rw [List.map_cons, ih, SC.ren_id]
  simp only [Obj.ren, this]
 | _ => rfl
theorem ObjR.move {K : Nat → Prop} {i : Nat} {o : Obj E} (hp : Plain E K o) (hK : ∀ i l, K i → g i = some l → g' i = some l) (hz : z = z' ∨ FlatObj E o) (hg : g' i = g i) (h : ObjR P E z g w i o) : ObjR P E z' g' w i o ∧ ∀ k, fpO g' i o k ↔ fpO g i o k := by
 have := h.move2 (s := fun i => i) (j := i) hp hK hz hg
 rwa [Obj.ren_id] at this
theorem ownO_plain {m : Mk} : ∀ {ts : List Ty} {h : HL E.S ts} {n : Nat}, ∀ i o, (i, o) ∈ ownO E m ts h n → ∃ p, o = some p ∧ (∀ K, Plain E K p) ∧ n ≤ i ∧ i < n + cntO m ts := by
 induction m with
 | nil => intro ts h n i o ho; cases ts <;> simp [ownO] at ho
 | cons a m ih =>
  intro ts h n i o ho
  cases ts with
  | nil => cases a <;> simp [ownO] at ho
  | cons t ts =>
   cases a with
   | none => simp only [ownO] at ho; simp only [cntO]; exact ih i o ho
   | some e =>
    cases t with
    | sl t =>
     simp only [ownO, List.mem_cons, Prod.mk.injEq] at ho
     simp only [cntO]
     rcases ho with ⟨rfl, rfl⟩ | ho
     ·exact ⟨_, rfl, fun _ => rfl, Nat.le_refl _, by omega⟩
     ·obtain ⟨p, h1, h2, h3, h4⟩ := ih i o ho
      exact ⟨p, h1, h2, by omega, by omega⟩
    | _ => simp [ownO] at ho
theorem resO_plain : ∀ {rs : Rs} {h : HL E.S rs.ts} {n : Nat}, ∀ i o, (i, o) ∈ resO E rs h n → ∃ p, o = some p ∧ (∀ K, Plain E K p) ∧ n ≤ i ∧ i < n + cntR E rs
 | [], h, n, i, o, ho => by simp [resO] at ho
 | (t, m) :: rs, h, n, i, o, ho => by
  simp only [resO, List.mem_append] at ho
  simp only [cntR]
  rcases ho with ho | ho
  ·obtain ⟨p, h1, h2, h3, h4⟩ := ownO_plain i o ho
   exact ⟨p, h1, h2, h3, by omega⟩
  ·obtain ⟨p, h1, h2, h3, h4⟩ := resO_plain i o ho
   exact ⟨p, h1, h2, by omega, by omega⟩
theorem argsO_in : ∀ {ps : List Pm} {a : PA E ps} {n : Nat}, ∀ i o, (i, o) ∈ argsO E ps a n → n ≤ i ∧ i < n + cntA E ps
 | [], a, n, i, o, ho => by simp [argsO] at ho
 | .l t m :: ps, a, n, i, o, ho => by
  simp only [argsO, List.mem_append] at ho
  simp only [cntA]
  rcases ho with ho | ho
  ·obtain ⟨p, h1, h2, h3, h4⟩ := ownO_plain i o ho
   omega
  ·have := argsO_in (ps := ps) (a := a.2) i o ho
   omega
 | .g t m :: ps, a, n, i, o, ho => by
  simp only [argsO, List.mem_append] at ho
  simp only [cntA]
  rcases ho with ho | ho
  ·obtain ⟨p, h1, h2, h3, h4⟩ := ownO_plain i o ho
   omega
  ·have := argsO_in (ps := ps) (a := a.2) i o ho
   omega
 | .b T t :: ps, a, n, i, o, ho => by
  simp only [argsO, List.mem_cons, Prod.mk.injEq] at ho
  simp only [cntA]
  rcases ho with ⟨rfl, rfl⟩ | ho
  ·omega
  ·have := argsO_in (ps := ps) (a := a.2) i o ho
   omega
 | .bm T t m :: ps, a, n, i, o, ho => by
  simp only [argsO, List.mem_cons, List.mem_append, Prod.mk.injEq] at ho
  simp only [cntA]
  rcases ho with ⟨rfl, rfl⟩ | ho | ho
  ·omega
  ·obtain ⟨p, h1, h2, h3, h4⟩ := ownO_plain i o ho
   omega
  ·have := argsO_in (ps := ps) (a := a.2) i o ho
   omega
 | .mp T k v :: ps, a, n, i, o, ho => by
  simp only [argsO, List.mem_cons, Prod.mk.injEq] at ho
  simp only [cntA]
  rcases ho with ⟨rfl, rfl⟩ | ho
  ·omega
  ·have := argsO_in (ps := ps) (a := a.2) i o ho
   omega
 | .d t :: ps, a, n, i, o, ho => argsO_in (ps := ps) (a := a.2) i o ho
 | .p t :: ps, a, n, i, o, ho => argsO_in (ps := ps) (a := a.2) i o ho
 | .f1 x r :: ps, a, n, i, o, ho => argsO_in (ps := ps) (a := a.2) i o ho
 | .f2 x y r :: ps, a, n, i, o, ho => argsO_in (ps := ps) (a := a.2) i o ho
theorem argsB_plain : ∀ {ps : List Pm} {a : PA E ps} {n k : Nat}, ∀ i o, (i, o) ∈ argsB E ps a n k → ∃ p, o = some p ∧ Plain E (fun j => k ≤ j ∧ j < k + cntM E ps) p ∧ ((n ≤ i ∧ i < n + cntA E ps) ∨ (k ≤ i ∧ i < k + cntM E ps))
 | [], a, n, k, i, o, ho => by simp [argsB] at ho
 | .l t m :: ps, a, n, k, i, o, ho => by
  simp only [argsB, List.mem_append] at ho
  simp only [cntA, cntM]
  rcases ho with ho | ho
  ·obtain ⟨p, h1, h2, h3, h4⟩ := ownO_plain i o ho
   exact ⟨p, h1, h2 _, by omega⟩
  ·obtain ⟨p, h1, h2, h3⟩ := argsB_plain (ps := ps) (a := a.2) i o ho
   exact ⟨p, h1, h2, by omega⟩
 | .g t m :: ps, a, n, k, i, o, ho => by
  obtain ⟨p, h1, h2, h3⟩ := argsB_plain (ps := ps) (a := a.2) i o ho
  simp only [cntA, cntM]
  exact ⟨p, h1, h2, by omega⟩
 | .b T t :: ps, a, n, k, i, o, ho => by
  simp only [argsB, List.mem_cons, Prod.mk.injEq] at ho
  simp only [cntA, cntM]
  rcases ho with ⟨rfl, rfl⟩ | ho
  ·exact ⟨_, rfl, hlc_plain, by omega⟩
  ·obtain ⟨p, h1, h2, h3⟩ := argsB_plain (ps := ps) (a := a.2) i o ho
   exact ⟨p, h1, h2, by omega⟩
 | .bm T t m :: ps, a, n, k, i, o, ho => by
  simp only [argsB, List.mem_cons, List.mem_append, Prod.mk.injEq] at ho
  simp only [cntA, cntM]
  rcases ho with ⟨rfl, rfl⟩ | ho | ho
  ·exact ⟨_, rfl, ownC_plain fun j hj => ⟨by omega, by omega⟩, by omega⟩
  ·obtain ⟨p, h1, h2, h3, h4⟩ := ownO_plain i o ho
   exact ⟨p, h1, h2 _, by omega⟩
  ·obtain ⟨p, h1, h2, h3⟩ := argsB_plain (ps := ps) (a := a.2) i o ho
   refine ⟨p, h1, ?_, by omega⟩
   cases p with
   | box T cs =>
    intro c hc
    have := h2 c hc
    cases c with
    | own id => exact ⟨by have := this.1; omega, by have := this.2; omega⟩
    | _ => exact this
   | _ => exact h2
 | .mp T kt v :: ps, a, n, k, i, o, ho => by
  simp only [argsB, List.mem_cons, Prod.mk.injEq] at ho
  simp only [cntA, cntM]
  rcases ho with ⟨rfl, rfl⟩ | ho
  ·exact ⟨_, rfl, rfl, by omega⟩
  ·obtain ⟨p, h1, h2, h3⟩ := argsB_plain (ps := ps) (a := a.2) i o ho
   exact ⟨p, h1, h2, by omega⟩
 | .d t :: ps, a, n, k, i, o, ho => argsB_plain (ps := ps) (a := a.2) i o ho
 | .p t :: ps, a, n, k, i, o, ho => argsB_plain (ps := ps) (a := a.2) i o ho
 | .f1 x r :: ps, a, n, k, i, o, ho => argsB_plain (ps := ps) (a := a.2) i o ho
 | .f2 x y r :: ps, a, n, k, i, o, ho => argsB_plain (ps := ps) (a := a.2) i o ho
end
end Rt
end Go
