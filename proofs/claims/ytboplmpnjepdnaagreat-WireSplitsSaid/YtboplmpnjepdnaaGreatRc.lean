/-
  The second engine, third text: quiet operations (those that read memory at most), on what slots stand for. No program in sight.
-/
import Derived.Test.YtboplmpnjepdnaaGreatRb
namespace Go
namespace Rt
open Go.RowKit

section
variable {P : Program} {E : TE} {z : Fz} {g : Ga}
/-! ### Constants and slots -/
def constC (E : TE) : Value → Option (SC E)
  | .int k n => some (.dt (.int k) n)
  | .bool b => some (.dt .bool b)
  | .string s => some (.dt .str s.data.toList)
  | .slice none 0 0 => some .nils
  | _ => none
theorem constC_ok {v : Value} {c : SC E} (h : constC E v = some c) : RC P E z g c v := by
  unfold constC at h
  split at h
  · obtain rfl := Option.some.inj h; exact .int .nil
  · obtain rfl := Option.some.inj h; exact .bool .nil
  · obtain rfl := Option.some.inj h; exact .str .nil
  · obtain rfl := Option.some.inj h; rfl
  · cases h
def constCs (E : TE) : List Value → Option (List (SC E))
  | [] => some []
  | v :: r => match constC E v with
    | none => none
    | some c => match constCs E r with
      | none => none
      | some l => some (c :: l)
theorem constCs_ok : ∀ {vs : List Value} {l : List (SC E)}, constCs E vs = some l → All2 (RC P E z g) l vs
  | [], l, h => by simp only [constCs, Option.some.injEq] at h; subst h; exact .nil
  | v :: r, l, h => by
    simp only [constCs] at h
    split at h
    · cases h
    · rename_i c hc
      split at h
      · cases h
      · rename_i l' hl
        obtain rfl := Option.some.inj h
        exact .cons (constC_ok hc) (constCs_ok hl)
def constV (E : TE) : Value → Option (SV E)
  | .agg cs => match constCs E cs.toList with
    | some l => some (.v (.agg l))
    | none => none
  | v => match constC E v with
    | some c => some (.v (.one c))
    | none => none
theorem constV_ok {v : Value} {s : SV E} (h : constV E v = some s) : RV P E z g s v := by
  unfold constV at h
  split at h
  · split at h
    · rename_i l hl
      obtain rfl := Option.some.inj h
      exact ⟨_, rfl, constCs_ok hl⟩
    · cases h
  · split at h
    · rename_i c hc
      obtain rfl := Option.some.inj h
      exact constC_ok hc
    · cases h
def opS (E : TE) (L : Nat → Option (SV E)) : Operand → Option (SV E)
  | .tmp t => L t
  | .const v => constV E v
  | .func f => some (.v (.one (.clo f [])))
  | _ => none
/-- The slots of a frame. -/
structure ER (P : Program) (E : TE) (z : Fz) (g : Ga) (N : Nat) (a : Act) (L : Nat → Option (SV E)) : Prop where
  size : a.tmps.size = N
  defers : a.defers = []
  get : ∀ t s, L t = some s → ∃ v, a.tmps[t]? = some v ∧ RV P E z g s v
abbrev OpR (P : Program) (E : TE) (z : Fz) (g : Ga) (L : Nat → Option (SV E)) (ρ : Operand → Value) : Prop := ∀ x s, opS E L x = some s → RV P E z g s (ρ x)
theorem ER.op {N : Nat} {a : Act} {L : Nat → Option (SV E)} (h : ER P E z g N a L) : OpR P E z g L a.eval := by
  intro x s hx
  cases x with
  | tmp t =>
    obtain ⟨v, h1, h2⟩ := h.get t s hx
    simpa [Act.eval, h1] using h2
  | const v => exact constV_ok hx
  | global g => cases hx
  | func f =>
    obtain rfl := Option.some.inj hx
    exact ⟨[], rfl, .nil⟩
theorem ER.less {N : Nat} {a : Act} {L L' : Nat → Option (SV E)} (h : ER P E z g N a L) (hL : ∀ t s, L' t = some s → L t = some s) : ER P E z g N a L' :=
  ⟨h.size, h.defers, fun t s e => h.get t s (hL t s e)⟩
theorem ER.le {z' : Fz} {g' : Ga} {N : Nat} {a : Act} {L : Nat → Option (SV E)} (h : ER P E z g N a L) (hz : z.Le z') (hg : g.Le g') : ER P E z' g' N a L :=
  ⟨h.size, h.defers, fun t s e => let ⟨v, h1, h2⟩ := h.get t s e; ⟨v, h1, h2.le hz hg⟩⟩
theorem ER.put {N : Nat} {a : Act} {L L' : Nat → Option (SV E)} (h : ER P E z g N a L) {d : Nat} (hd : Nat.blt d N = true) {s : SV E} {v : Value} (hv : RV P E z g s v)
    (hL : ∀ t u, L' t = some u → (t = d ∧ u = s) ∨ (t ≠ d ∧ L t = some u)) : ER P E z g N (a.put (some d) v) L' := by
  have hd' : d < N := by simpa using hd
  refine ⟨by simpa [Act.put] using h.size, h.defers, fun t u e => ?_⟩
  rcases hL t u e with ⟨rfl, rfl⟩ | ⟨h1, h2⟩
  · exact ⟨v, by simp [Act.put, h.size, hd'], hv⟩
  · obtain ⟨v', h3, h4⟩ := h.get t u h2
    refine ⟨v', ?_, h4⟩
    simp only [Act.put]
    rw [Array.getElem?_setIfInBounds_ne (Ne.symm h1)]
    exact h3

/-! ### What a slot stands for, taken apart -/
def SV.int? : SV E → Option (IntKind × Int)
  | .v (.one (.dt (.int k) n)) => some (k, n)
  | _ => none
def SV.str? : SV E → Option Str
  | .v (.one (.dt .str s)) => some s
  | _ => none
def SV.bool? : SV E → Option Bool
  | .v (.one (.dt .bool b)) => some b
  | _ => none
def SV.cell? : SV E → Option (SC E)
  | .v (.one c) => some c
  | _ => none
def SV.cells? : SV E → Option (List (SC E))
  | .v (.one c) => some [c]
  | .v (.agg l) => some l
  | _ => none
theorem SV.int_ok {s : SV E} {v : Value} {k : IntKind} {n : Int} (h : s.int? = some (k, n)) (r : RV P E z g s v) : v = .int k n := by
  unfold SV.int? at h
  split at h
  · simp only [Option.some.injEq, Prod.mk.injEq] at h
    obtain ⟨rfl, rfl⟩ := h
    obtain ⟨vs, e, r⟩ := RD.int_inv (r : RD E z _ _ [v])
    simp at e; exact e.1
  · cases h
theorem SV.str_ok {s : SV E} {v : Value} {x : Str} (h : s.str? = some x) (r : RV P E z g s v) : v = S x := by
  unfold SV.str? at h
  split at h
  · simp only [Option.some.injEq] at h
    subst h
    obtain ⟨vs, e, r⟩ := RD.str_inv (r : RD E z _ _ [v])
    simp at e; exact e.1
  · cases h
theorem SV.bool_ok {s : SV E} {v : Value} {b : Bool} (h : s.bool? = some b) (r : RV P E z g s v) : v = .bool b := by
  unfold SV.bool? at h
  split at h
  · simp only [Option.some.injEq] at h
    subst h
    obtain ⟨vs, e, r⟩ := RD.bool_inv (r : RD E z _ _ [v])
    simp at e; exact e.1
  · cases h
theorem SV.cell_ok {s : SV E} {v : Value} {c : SC E} (h : s.cell? = some c) (r : RV P E z g s v) : RC P E z g c v := by
  unfold SV.cell? at h
  split at h
  · obtain rfl := Option.some.inj h; exact r
  · cases h
theorem SV.cells_ok {s : SV E} {v : Value} {l : List (SC E)} (h : s.cells? = some l) (r : RV P E z g s v) : All2 (RC P E z g) l v.cells.toList := by
  unfold SV.cells? at h
  split at h
  · rename_i c
    obtain rfl := Option.some.inj h
    have hc := RC.cell (c := c) r
    have : v.cells = #[v] := by cases v <;> first | rfl | cases hc
    rw [this]
    exact .cons r .nil
  · obtain rfl := Option.some.inj h
    obtain ⟨vs, rfl, r⟩ := r
    exact r
  · cases h
/-- A value that the slot determines. -/
def SV.val? : SV E → Option Value
  | .v (.one (.dt (.int k) n)) => some (.int k n)
  | .v (.one (.dt .bool b)) => some (.bool b)
  | .v (.one (.dt .str s)) => some (S s)
  | _ => none
theorem SV.val_ok {s : SV E} {v u : Value} (h : s.val? = some u) (r : RV P E z g s v) : v = u := by
  unfold SV.val? at h
  split at h
  · obtain rfl := Option.some.inj h; exact SV.int_ok rfl r
  · obtain rfl := Option.some.inj h; exact SV.bool_ok rfl r
  · obtain rfl := Option.some.inj h; exact SV.str_ok rfl r
  · cases h

/-! ### What an operation may do to the abstract memory without doing anything to the world -/
abbrev Up (E : TE) := Option (Nat × Obj E)
def UpOK (P : Program) (E : TE) (g g' : Ga) (H : Nat → Option (Obj E)) : Up E → Prop
  | none => g' = g
  | some (i, o') => ∃ o, H i = some o ∧ (∀ z w, ObjR P E z g w i o → ObjR P E z g' w i o') ∧ ∀ k, fpO g' i o' k ↔ fpO g i o k
/-- What the abstract memory speaks of is in another world as it is in W. -/
def Stands (z : Fz) (g : Ga) {E : TE} (H : Nat → Option (Obj E)) (W w : World) : Prop := z.In w ∧ ∀ id o k, H id = some o → fpO g id o k → w.heap[k]? = W.heap[k]?
theorem Stands.hold {P : Program} {E : TE} {z : Fz} {g : Ga} {H : Nat → Option (Obj E)} {Bs : List Nat} {F0 : Nat → Prop} {w0 W w : World} (h : Stands z g H W w) (hH : HR P E Bs F0 w0 W z g H) : ∀ id o, H id = some o → ObjR P E z g w id o :=
  fun id o e => (hH.hold id o e).keep (Fz.Le.refl z) (Ga.Le.refl g) fun k hk => h.2 id o k e hk
theorem Stands.of_ext {P : Program} {E : TE} {z : Fz} {g : Ga} {H : Nat → Option (Obj E)} {Bs : List Nat} {F0 : Nat → Prop} {w0 W w : World} (hH : HR P E Bs F0 w0 W z g H) (h : Ext W w) : Stands z g H W w :=
  ⟨hH.fz.ext h, fun id o k e hk => h.below.block k ((hH.hold id o e).lt hk)⟩
theorem Stands.refl {P : Program} {E : TE} {z : Fz} {g : Ga} {H : Nat → Option (Obj E)} {Bs : List Nat} {F0 : Nat → Prop} {w0 W : World} (hH : HR P E Bs F0 w0 W z g H) : Stands z g H W W := ⟨hH.fz, fun _ _ _ _ _ => rfl⟩
/-- In every world of a kind the operation yields one value, and that is what k is given. -/
def Good (P : Program) (E : TE) (z : Fz) (g : Ga) (nx : Nat) (I : World → Prop) (H : Nat → Option (Obj E)) (ρ : Operand → Value) (o : Oper) {R : Type} (k : SV E → Up E → Option R) (r : R) : Prop :=
  ∃ s v up g', k s up = some r ∧ g.Le g' ∧ (∀ i, i ≠ nx → g' i = g i) ∧ RV P E z g' s v ∧ (∀ w', I w' → (execOp ρ o).run P w' = .ok (.value v) w') ∧ UpOK P E g g' H up
section
variable {L : Nat → Option (SV E)} {H : Nat → Option (Obj E)} {ρ : Operand → Value} {W w0 : World} {I : World → Prop} {o : Oper} {R : Type} {k : SV E → Up E → Option R} {r : R} {Bs : List Nat} {F0 : Nat → Prop} {nx : Nat}
theorem Good.plain {s : SV E} {v : Value} (hk : k s none = some r) (hv : RV P E z g s v) (hr : ∀ w', (execOp ρ o).run P w' = .ok (.value v) w') : Good P E z g nx I H ρ o k r :=
  ⟨s, v, none, g, hk, Ga.Le.refl g, fun _ _ => rfl, hv, fun w' _ => hr w', rfl⟩

/-- Operations on numbers and Booleans: the model's own run. -/
def ρS (E : TE) (L : Nat → Option (SV E)) (x : Operand) : Value := ((opS E L x).bind SV.val?).getD undef
def knownS (E : TE) (L : Nat → Option (SV E)) : List Operand → Bool
  | [] => true
  | x :: l => (match (opS E L x).bind SV.val? with | some _ => true | none => false) && knownS E L l
theorem knownS_mem (hρ : OpR P E z g L ρ) : ∀ {l : List Operand}, knownS E L l = true → ∀ x ∈ l, ρ x = ρS E L x
  | [], _, x, hx => by cases hx
  | y :: l, h, x, hx => by
    simp only [knownS, Bool.and_eq_true] at h
    rcases List.mem_cons.1 hx with rfl | hx
    · cases hs : opS E L x with
      | none => rw [hs] at h; simp at h
      | some s =>
        rw [hs] at h
        cases hv : s.val? with
        | none => rw [Option.bind_some, hv] at h; simp at h
        | some u => rw [SV.val_ok hv (hρ x s hs)]; simp [ρS, hs, hv]
    · exact knownS_mem hρ h.2 x hx
def qPure (P : Program) (E : TE) (L : Nat → Option (SV E)) (o : Oper) {R : Type} (k : SV E → Up E → Option R) : Option R :=
  match knownS E L o.op.operands.toList && !isSelect o.op with
  | true => match evalPure P (execOp (ρS E L) o) with
    | some (.value v) => match constV E v with
      | some s => k s none
      | none => none
    | _ => none
  | false => none
theorem qPure_ok (hρ : OpR P E z g L ρ) (h : qPure P E L o k = some r) : Good P E z g nx I H ρ o k r := by
  unfold qPure at h
  split at h
  · rename_i hk
    simp only [Bool.and_eq_true, Bool.not_eq_true'] at hk
    have hc : execOp ρ o = execOp (ρS E L) o := by
      refine execOp_congr o (fun cs b e => ?_) fun x hx => ?_
      · rw [e] at hk; simp [isSelect] at hk
      · exact knownS_mem hρ hk.1 x (by simpa using hx)
    split at h
    · rename_i v hv
      split at h
      · rename_i s hs
        exact .plain h (constV_ok hs) fun w' => by rw [hc]; exact evalPure_run hv w'
      · cases h
    · cases h
  · cases h

/-! ### Moves -/
def qMove (E : TE) (L : Nat → Option (SV E)) (x : Operand) {R : Type} (k : SV E → Up E → Option R) : Option R := match opS E L x with
  | some s => k s none
  | none => none
theorem qMove_ok {x : Operand} (ho : o.op = .move x ∨ o.op = .assign x) (hρ : OpR P E z g L ρ) (h : qMove E L x k = some r) : Good P E z g nx I H ρ o k r := by
  unfold qMove at h
  split at h
  · rename_i s hs
    refine .plain h (hρ x s hs) fun w' => ?_
    unfold execOp
    rcases ho with ho | ho <;> rw [ho] <;> rfl
  · cases h
def SC.sure : SC E → Bool
  | .ptr .. | .elo .. | .elf .. => true
  | .fn1 .. | .fn2 .. | .clo .. => true
  | _ => false
def qNil (E : TE) (L : Nat → Option (SV E)) (x : Operand) {R : Type} (k : SV E → Up E → Option R) : Option R := match opS E L x with
  | some (.v (.one c)) => match c.sure with
    | true => k (.v (.one c)) none
    | false => none
  | _ => none
theorem qNil_ok {x : Operand} (ho : o.op = .nilCheck x) (hρ : OpR P E z g L ρ) (h : qNil E L x k = some r) : Good P E z g nx I H ρ o k r := by
  unfold qNil at h
  split at h
  · rename_i c hs
    split at h
    · rename_i hc
      have hr := hρ x _ hs
      refine .plain h hr fun w' => ?_
      unfold execOp
      rw [ho]
      simp only
      generalize ρ x = v at hr
      cases c with
      | ptr id off => obtain ⟨l, _, rfl⟩ := hr; rfl
      | elo id q i off => obtain ⟨l, _, _, rfl⟩ := hr; rfl
      | elf t y off => obtain ⟨b, q, rr, rfl, _⟩ := hr; rfl
      | fn1 a q f => obtain ⟨fid, caps, rfl, _⟩ := hr; rfl
      | fn2 a b q f => obtain ⟨fid, caps, rfl, _⟩ := hr; rfl
      | clo f caps => obtain ⟨us, rfl, _⟩ := hr; rfl
      | _ => cases hc
    · cases h
  · cases h
def qExtract (E : TE) (L : Nat → Option (SV E)) (x : Operand) (i : Nat) {R : Type} (k : SV E → Up E → Option R) : Option R := match opS E L x with
  | some (.tup l) => match l[i]? with
    | some y => k (.v y) none
    | none => none
  | _ => none
theorem qExtract_ok {x : Operand} {i : Nat} (ho : o.op = .extract x i) (hρ : OpR P E z g L ρ) (h : qExtract E L x i k = some r) : Good P E z g nx I H ρ o k r := by
  unfold qExtract at h
  split at h
  · rename_i l hs
    split at h
    · rename_i y hy
      obtain ⟨vs, e, hr⟩ := hρ x _ hs
      obtain ⟨u, hu, hru⟩ := hr.get hy
      refine .plain h (v := u) hru fun w' => ?_
      unfold execOp
      rw [ho]
      simp only [e]
      simp [Instr.extract, hu]
    · cases h
  · cases h

/-! ### Loads -/
def loadC (P : Program) (T : TypeId) (l : List (SC E)) (off : Nat) : Option (V1 E) :=
  match aggB P T, sizeV P T with
  | some true, some n => match Nat.ble (off + n) l.length with | true => some (.agg ((l.drop off).take n)) | false => none
  | some false, _ => match l[off]? with | some c => some (.one c) | none => none
  | _, _ => none
theorem loadC_ok {T : TypeId} {l : List (SC E)} {off : Nat} {x : V1 E} {vs : List Value} (h : loadC P T l off = some x) (hl : All2 (RC P E z g) l vs) : ∃ v, loadVal P T vs off = some v ∧ R1 P E z g x v := by
  unfold loadC at h
  unfold loadVal
  cases ha : aggB P T with
  | none => rw [ha] at h; cases h
  | some b =>
    rw [ha] at h
    cases b with
    | true =>
      cases hn : sizeV P T with
      | none => rw [hn] at h; cases h
      | some n =>
        rw [hn] at h
        have hn' : (P.info? T).map (·.size) = some n := hn
        rw [hn']
        simp only at h ⊢
        rw [← hl.len]
        split at h
        · rename_i hb
          obtain rfl := Option.some.inj h
          rw [hb]
          exact ⟨_, rfl, _, rfl, (hl.drop off).take n⟩
        · cases h
    | false =>
      simp only at h ⊢
      split at h
      · rename_i c hc
        obtain rfl := Option.some.inj h
        obtain ⟨u, hu, hr⟩ := hl.get hc
        exact ⟨u, hu, hr⟩
      · cases h
theorem part_run {T : TypeId} {vs : List Value} {off : Nat} {v : Value} (h : loadVal P T vs off = some v) (w : World) : (part T vs.toArray off).run P w = .ok v w := by
  unfold loadVal at h
  cases ha : aggB P T with
  | none => rw [ha] at h; cases h
  | some b =>
    rw [ha] at h
    cases b with
    | true =>
      cases hi : P.info? T with
      | none => simp [hi] at h
      | some i =>
        simp only [hi, Option.map_some] at h
        split at h
        · rename_i hb
          obtain rfl := Option.some.inj h
          simp [part, Sem.run_bind, aggB_run ha, sizeOf, typeInfo, hi]
        · cases h
    | false =>
      simp only at h
      simp [part, Sem.run_bind, aggB_run ha, h]
def qField (P : Program) (E : TE) (L : Nat → Option (SV E)) (T : TypeId) (x : Operand) (f : Nat) {R : Type} (k : SV E → Up E → Option R) : Option R :=
  match P.underlying T, opS E L x with
  | some (.struct fs), some (.v (.agg l)) => match fs[f]? with
    | some q => match loadC P q.type l q.offset with
      | some y => k (.v y) none
      | none => none
    | none => none
  | _, _ => none
theorem qField_ok {x : Operand} {T : TypeId} {f : Nat} (ho : o.op = .field T x f) (hρ : OpR P E z g L ρ) (h : qField P E L T x f k = some r) : Good P E z g nx I H ρ o k r := by
  unfold qField at h
  split at h
  · rename_i fs l hu hs
    split at h
    · rename_i q hq
      split at h
      · rename_i y hy
        obtain ⟨vs, e, hr⟩ := hρ x _ hs
        obtain ⟨v, hv, hrv⟩ := loadC_ok hy hr
        refine .plain h (v := v) hrv fun w' => ?_
        unfold execOp
        rw [ho]
        simp only [e]
        simp [Instr.field, run_underlying hu, hq, asAgg, part_run hv]
      · cases h
    · cases h
  · cases h
/-- The cells behind a pointer, and where in them it points. -/
def behind (E : TE) (H : Nat → Option (Obj E)) : SC E → Option (List (SC E) × Nat)
  | .ptr id off => match H id with
    | some (.box _ cs) => some (cs, off)
    | some (.fb t x) => some (E.cells t x, off)
    | _ => none
  | .elo id q _ off => match H id with
    | some (.row _ t _ foc) => match foc.find? fun p => Nat.beq p.1 q with
      | some p => some (E.cells t p.2.2, off)
      | none => none
    | _ => none
  | .elf t x off => some (E.cells t x, off)
  | _ => none
theorem behind_ok {c : SC E} {l : List (SC E)} {off : Nat} {v : Value} (hH : HR P E Bs F0 w0 W z g H) (h : behind E H c = some (l, off)) (hr : RC P E z g c v) :
    ∃ b base vs, v = .pointer (some ⟨b, base + off, none⟩) ∧ All2 (RC P E z g) l vs ∧ ∀ w', Stands z g H W w' → ∀ j u, vs[j]? = some u → w'.cell? ⟨b, base + j, none⟩ = some u := by
  cases c with
  | ptr id off' =>
    simp only [behind] at h
    split at h
    · rename_i T cs hb
      simp only [Option.some.injEq, Prod.mk.injEq] at h
      obtain ⟨rfl, rfl⟩ := h
      obtain ⟨lo, h1, rfl⟩ := hr
      refine ⟨lo.b, 0, ?_⟩
      obtain ⟨lo', vs, h2, h3, h4⟩ := hH.hold _ _ hb
      rw [h1] at h2; obtain rfl := Option.some.inj h2
      refine ⟨vs, by rw [Nat.zero_add], h4, fun w' hx j u hu => ?_⟩
      have hh : w'.heap[lo.b]? = some (.cells vs.toArray T (0, 0)) := by rw [hx.2 _ _ _ hb ⟨lo, h1, rfl⟩]; exact h3
      rw [Nat.zero_add, cell_of_row w' lo.b j vs.toArray T (0, 0) hh]
      simpa using hu
    · rename_i t x hb
      simp only [Option.some.injEq, Prod.mk.injEq] at h
      obtain ⟨rfl, rfl⟩ := h
      obtain ⟨lo, h1, rfl⟩ := hr
      obtain ⟨lo', rr, h2, hF, hrd, hcell⟩ := hH.hold _ _ hb
      rw [h1] at h2; obtain rfl := Option.some.inj h2
      refine ⟨lo.b, 0, rr, by rw [Nat.zero_add], cells_rd.1 hrd, fun w' hx j u hu => ?_⟩
      rw [Nat.zero_add, World.cell?_of_block (w := z.w) (hx.1 lo.b hF).2]
      exact hcell j u hu
    · cases h
  | elo id q ii off' =>
    simp only [behind] at h
    split at h
    · rename_i e t xs foc hb
      split at h
      · rename_i p hp
        simp only [Option.some.injEq, Prod.mk.injEq] at h
        obtain ⟨rfl, rfl⟩ := h
        obtain ⟨lq, h1, _, rfl⟩ := hr
        obtain ⟨lo, rows, h2, hn, hc, hown, hlen, hrl, hrows, hfoc⟩ := hH.hold _ _ hb
        have hpi : p.1 = q := Nat.eq_of_beq_eq_true (by simpa using List.find?_some hp)
        obtain ⟨hg, lq', o', h3, hA, hln, _⟩ := hfoc p (List.mem_of_find?_eq_some hp)
        rw [hpi, h1] at h3
        obtain rfl := Option.some.inj h3
        obtain ⟨h0, hx, hlt⟩ := getI_some hg
        have hil : p.2.1.toNat < rows.length := by rw [hlen, hn]; exact hlt
        have hrd := hrows p.2.1.toNat p.2.2 _ hx (List.getElem?_eq_getElem hil)
        have hs := row_reads (w := W) (e := e) (cap := lo.cap) ⟨hown, hlen, hrl⟩
        obtain ⟨b', off2, hA', _, hcell⟩ := hs.2 (by omega)
        rw [hA] at hA'
        simp only [Option.some.injEq, Addr.mk.injEq] at hA'
        obtain ⟨rfl, rfl, _⟩ := hA'
        refine ⟨lq.b, lq.n, _, rfl, cells_rd.1 hrd, fun w' hx' j u hu => ?_⟩
        rw [World.cell?_of_block (w := W) (hx'.2 _ _ lq.b hb ⟨lo, _, h2, hA, rfl⟩), hln]
        exact (hcell p.2.1.toNat _ (List.getElem?_eq_getElem hil)).2 j u hu
      · cases h
    · cases h
  | elf t x off' =>
    simp only [behind, Option.some.injEq, Prod.mk.injEq] at h
    obtain ⟨rfl, rfl⟩ := h
    obtain ⟨b, q, rr, rfl, hF, hrd, hcell⟩ := hr
    refine ⟨b, q, rr, rfl, cells_rd.1 hrd, fun w' hx' j u hu => ?_⟩
    have hz := hx'.1 b hF
    rw [World.cell?_of_block (w := z.w) hz.2]
    exact hcell j u hu
  | _ => cases h
def qLoad (P : Program) (E : TE) (L : Nat → Option (SV E)) (H : Nat → Option (Obj E)) (T : TypeId) (x : Operand) {R : Type} (k : SV E → Up E → Option R) : Option R :=
  match opS E L x with
  | some (.v (.one c)) => match behind E H c with
    | some (l, off) => match loadC P T l off with
      | some y => k (.v y) none
      | none => none
    | none => none
  | _ => none
theorem qLoad_ok {x : Operand} {T : TypeId} (ho : o.op = .load T x) (hρ : OpR P E z g L ρ) (hH : HR P E Bs F0 w0 W z g H) (hI : ∀ w', I w' → Stands z g H W w') (h : qLoad P E L H T x k = some r) : Good P E z g nx I H ρ o k r := by
  unfold qLoad at h
  split at h
  · rename_i c hs
    split at h
    · rename_i l off hb
      split at h
      · rename_i y hy
        obtain ⟨b, base, vs, hv, hl, hc⟩ := behind_ok hH hb (hρ x _ hs)
        obtain ⟨v, hlv, hrv⟩ := loadC_ok hy hl
        exact ⟨_, v, none, g, h, Ga.Le.refl g, fun _ _ => rfl, hrv, fun w' hx => run_load ho hv (run_loadVal hlv (hc w' (hI w' hx))), rfl⟩
      · cases h
    · cases h
  · cases h
end
end
end Rt
end Go
