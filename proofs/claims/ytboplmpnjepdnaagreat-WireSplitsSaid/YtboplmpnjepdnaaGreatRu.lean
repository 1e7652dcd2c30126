/-
  The second engine: keys of maps, and maps looked up. No program in sight.
-/
import Derived.Test.YtboplmpnjepdnaaGreatRd
namespace Go
namespace Rt
open Go.RowKit

section
/-! ### Keys -/
/-- Does a value count as a key? -/
def ckFs (P : Program) (f : TypeId → Value → Bool) (cs : Array Value) : List Field → Bool
  | [] => true
  | g :: fs => (match evalPure P (part g.type cs g.offset) with | some v => f g.type v | none => false) && ckFs P f cs fs
def ckV (P : Program) : Nat → TypeId → Value → Bool
  | 0, _, _ => false
  | n + 1, K, v => match P.underlying K, v with
    | some (.int _), .int _ _ => true
    | some .bool, .bool _ => true
    | some .string, .string _ => true
    | some (.struct fs), .agg cs => ckFs P (ckV P n) cs fs.toList
    | _, _ => false
theorem ckFs_run {P : Program} {f : TypeId → Value → Bool} {d : Nat} {b : Bool} {w : World} (hf : ∀ K v, f K v = true → (Instr.checkKey b d K v).run P w = .ok () w) {cs : Array Value} : ∀ {fs : List Field}, ckFs P f cs fs = true →
    (forIn (m := Sem) fs PUnit.unit fun g (_ : PUnit) => if g.name ≠ "_" then (do Instr.checkKey b d g.type (← part g.type cs g.offset); pure (ForInStep.yield PUnit.unit)) else pure (ForInStep.yield PUnit.unit)).run P w = .ok PUnit.unit w
  | [], _ => rfl
  | g :: fs, h => by
    simp only [ckFs, Bool.and_eq_true] at h
    have ih := ckFs_run hf h.2
    cases hp : evalPure P (part g.type cs g.offset) with
    | none => rw [hp] at h; cases h.1
    | some v =>
      rw [hp] at h
      rw [List.forIn_cons, Sem.run_bind]
      by_cases hn : g.name ≠ "_"
      · rw [if_pos hn]
        simp only [Sem.run_bind, evalPure_run hp w, Result.andThen_ok, hf _ _ h.1, Sem.run_pure]
        exact ih
      · rw [if_neg hn]
        simp only [Sem.run_pure, Result.andThen_ok]
        exact ih
theorem ckV_run {P : Program} {b : Bool} {w : World} : ∀ {n d : Nat} {K : TypeId} {v : Value}, ckV P n K v = true → (Instr.checkKey b (d + n) K v).run P w = .ok () w
  | 0, _, _, _, h => by cases h
  | n + 1, d, K, v, h => by
    simp only [ckV] at h
    rw [← Nat.add_assoc]
    split at h
    · rename_i hu
      unfold Instr.checkKey
      simp only [Sem.run_bind, run_underlying hu, Result.andThen_ok, Sem.run_pure]
    · rename_i hu
      unfold Instr.checkKey
      simp only [Sem.run_bind, run_underlying hu, Result.andThen_ok, Sem.run_pure]
    · rename_i hu
      unfold Instr.checkKey
      simp only [Sem.run_bind, run_underlying hu, Result.andThen_ok, Sem.run_pure]
    · rename_i fs cs hu
      have := ckFs_run (b := b) (w := w) (d := d + n) (fun K v h => ckV_run (n := n) (d := d) h) h
      unfold Instr.checkKey
      simp only [Sem.run_bind, run_underlying hu, Result.andThen_ok]
      rw [← Array.forIn_toList]
      exact (congrArg (fun (r : Result PUnit) => r.andThen fun _ w' => Sem.run P (pure ()) w') this).trans rfl
    · cases h
variable {P : Program} {E : TE}
def eqB (E : TE) : (t : Ty) → Option (Den E.S t → Den E.S t → Bool)
  | .int _ => some fun (a b : Int) => a == b
  | .bool => some fun (a b : Bool) => a == b
  | .str => some fun (a b : Str) => a == b
  | .st n => match E.deq n with
    | some d => some fun a b => @decide (a = b) (d a b)
    | none => none
  | .sl _ => none
theorem eqB_iff {t : Ty} {eq : Den E.S t → Den E.S t → Bool} (h : eqB E t = some eq) (x y : Den E.S t) : eq x y = true ↔ x = y := by
  cases t with
  | int k => obtain rfl := Option.some.inj h; show ((x : Int) == y) = true ↔ _; exact beq_iff_eq
  | bool => obtain rfl := Option.some.inj h; show ((x : Bool) == y) = true ↔ _; exact beq_iff_eq
  | str => obtain rfl := Option.some.inj h; show ((x : Str) == y) = true ↔ _; exact beq_iff_eq
  | sl t => cases h
  | st n =>
    simp only [eqB] at h
    split at h
    · obtain rfl := Option.some.inj h; exact decide_eq_true_iff
    · cases h
/-- The value of a key, where the type is one of keys. -/
def keyV (P : Program) (E : TE) (eqs : List (Nat × Nat)) (K : TypeId) (t : Ty) (x : Den E.S t) : Option Value :=
  match t, P.underlying K with
  | .int k, some (.int k') => match decide (k = k') with
    | true => valT E (.int k) x
    | false => none
  | .bool, some .bool => valT E .bool x
  | .str, some .string => valT E .str x
  | .st n, some (.struct _) => match eqs.find? fun p => Nat.beq p.1 K with
    | some p => match Nat.beq p.2 n, valT E (.st n) x with
      | true, some v => match ckV P 20 K v with
        | true => some v
        | false => none
      | _, _ => none
    | none => none
  | _, _ => none
/-- What is known of a key. -/
structure KeyIs (P : Program) (E : TE) (K : TypeId) (t : Ty) (eq : Den E.S t → Den E.S t → Bool) (x : Den E.S t) (v : Value) : Prop where
  val : valT E t x = some v
  chk : ∀ b w, (Instr.checkKey b 10000 K v).run P w = .ok () w
  find : ∀ {vt : Ty} {ks : List (Den E.S t)} {vs : List (Den E.S vt)} {es : Array MapEntry} (w : World), MapR E t vt ks vs es.toList → (Instr.findKey K v es.toList).run P w = .ok (foundAt es (idxK eq x ks)) w
  same : Instr.sameBits 10000 v v = true
theorem find_now {d : TypeDesc} {t vt : Ty} {eq : Den E.S t → Den E.S t → Bool} {x : Den E.S t} {kv : Value} (hs : ∀ y v, valT E t y = some v → Instr.sameNow d kv v = some (eq x y)) {ks : List (Den E.S t)} {vs : List (Den E.S vt)} {es : List MapEntry} (h : MapR E t vt ks vs es) :
    ∀ i, Instr.findNow d kv es i = some (match idxK eq x ks with | some j => (es[j]?).map fun e => (i + j, e.val) | none => none) := by
  induction h with
  | nil => intro i; rfl
  | cons hk hv _ ih =>
    intro i
    simp only [Instr.findNow, hs _ _ hk, idxK]
    cases eq x _ with
    | true => rfl
    | false =>
      simp only [ih (i + 1)]
      cases idxK eq x _ with
      | none => rfl
      | some j =>
        simp only [List.getElem?_cons_succ]
        rw [show i + 1 + j = i + (j + 1) by omega]
theorem find_ask {K : TypeId} {t vt : Ty} {eq : Den E.S t → Den E.S t → Bool} {x : Den E.S t} {kv : Value} (hs : ∀ y v w, valT E t y = some v → (Op.equal K kv v).run P w = .ok (eq x y) w) {ks : List (Den E.S t)} {vs : List (Den E.S vt)} {es : List MapEntry} (h : MapR E t vt ks vs es) :
    ∀ i w, (Instr.findAsking K kv es i).run P w = .ok (match idxK eq x ks with | some j => (es[j]?).map fun e => (i + j, e.val) | none => none) w := by
  induction h with
  | nil => intro i w; rfl
  | cons hk hv _ ih =>
    intro i w
    simp only [Instr.findAsking, Sem.run_bind, hs _ _ w hk, Result.andThen_ok, idxK]
    cases eq x _ with
    | true => rfl
    | false =>
      simp only [Bool.false_eq_true, if_false, ih (i + 1)]
      cases idxK eq x _ with
      | none => rfl
      | some j =>
        simp only [List.getElem?_cons_succ]
        rw [show i + 1 + j = i + (j + 1) by omega]
theorem foundAt_zero {es : Array MapEntry} {ix : Option Nat} : (match ix with | some j => (es.toList[j]?).map fun e => (0 + j, e.val) | none => none) = foundAt es ix := by
  cases ix with
  | none => rfl
  | some j => simp [foundAt]
theorem same_flat : ∀ {ts : List Ty} {h : HL E.S ts} {l : List Value}, encH E ts h = some l → (l.zip l).all (fun p => Instr.sameBits 9999 p.1 p.2) = true
  | [], _, l, h => by obtain rfl := Option.some.inj h; rfl
  | .int k :: ts, hh, l, h => by
    simp only [encH] at h
    split at h
    · rename_i l' hl
      obtain rfl := Option.some.inj h
      rw [List.zip_cons_cons, List.all_cons, same_flat hl]
      simp [Instr.sameBits]
    · cases h
  | .bool :: ts, hh, l, h => by
    simp only [encH] at h
    split at h
    · rename_i l' hl
      obtain rfl := Option.some.inj h
      rw [List.zip_cons_cons, List.all_cons, same_flat hl]
      simp [Instr.sameBits]
    · cases h
  | .str :: ts, hh, l, h => by
    simp only [encH] at h
    split at h
    · rename_i l' hl
      obtain rfl := Option.some.inj h
      rw [List.zip_cons_cons, List.all_cons, same_flat hl, Bool.and_true]
      exact (MapKept.bytes_beq _ _).2 rfl
    · cases h
  | .sl _ :: ts, hh, l, h => by simp [encH] at h
  | .st _ :: ts, hh, l, h => by simp [encH] at h
theorem keyV_ok {eqs : List (Nat × Nat)} (heq : ∀ p ∈ eqs, EqFact P E p.1 p.2) {K : TypeId} {t : Ty} {eq : Den E.S t → Den E.S t → Bool} {x : Den E.S t} {v : Value} (he : eqB E t = some eq) (h : keyV P E eqs K t x = some v) : KeyIs P E K t eq x v := by
  unfold keyV at h
  split at h
  · rename_i k k' x hu
    split at h
    · rename_i hk
      obtain rfl := of_decide_eq_true hk
      obtain rfl := Option.some.inj h
      obtain rfl := Option.some.inj he
      refine ⟨rfl, fun b w => ckV_run (n := 1) (d := 9999) (by simp only [ckV, hu]), fun w hr => ?_, by simp [Instr.sameBits]⟩
      refine (MapKept.run_findKey hu (find_now (eq := fun (a b : Int) => a == b) (x := x) (fun y v hv => ?_) hr 0)).trans (by rw [foundAt_zero])
      obtain rfl := Option.some.inj hv
      simp [Instr.sameNow]
    · cases h
  · rename_i x hu
    obtain rfl := Option.some.inj h
    obtain rfl := Option.some.inj he
    refine ⟨rfl, fun b w => ckV_run (n := 1) (d := 9999) (by simp only [ckV, hu]), fun w hr => ?_, by simp [Instr.sameBits]⟩
    refine (MapKept.run_findKey hu (find_now (eq := fun (a b : Bool) => a == b) (x := x) (fun y v hv => ?_) hr 0)).trans (by rw [foundAt_zero])
    obtain rfl := Option.some.inj hv
    rfl
  · rename_i x hu
    obtain rfl := Option.some.inj h
    obtain rfl := Option.some.inj he
    refine ⟨rfl, fun b w => ckV_run (n := 1) (d := 9999) (by simp only [ckV, hu, S]), fun w hr => ?_, (MapKept.bytes_beq _ _).2 rfl⟩
    refine (MapKept.run_findKey hu (find_now (eq := fun (a b : Str) => a == b) (x := x) (fun y v hv => ?_) hr 0)).trans (by rw [foundAt_zero])
    obtain rfl := Option.some.inj hv
    simp only [Instr.sameNow, S]
    congr 1
    rw [Bool.eq_iff_iff]
    refine (MapKept.bytes_beq _ _).trans ⟨fun h => ?_, fun h => ?_⟩
    · have := congrArg (fun b : ByteArray => b.data.toList) h
      show ((x : Str) == y) = true
      simpa using this
    · rw [show x = y from by simpa using (show ((x : Str) == y) = true from h)]
  · rename_i n fs x hu
    split at h
    · rename_i p hp
      split at h
      · rename_i v' hn hv
        split at h
        · rename_i hc
          obtain rfl := Option.some.inj h
          have hT : p.1 = K := Nat.eq_of_beq_eq_true (by simpa using List.find?_some hp)
          have hf := heq p (List.mem_of_find?_eq_some hp)
          rw [hT, Nat.eq_of_beq_eq_true hn] at hf
          simp only [eqB] at he
          split at he
          · rename_i d hd
            obtain rfl := Option.some.inj he
            have hval := hv
            simp only [valT] at hv
            split at hv
            · rename_i l hl
              obtain rfl := Option.some.inj hv
              refine ⟨hval, fun b w => ckV_run (n := 20) (d := 9980) hc, fun {vt ks vs es} w hr => ?_, ?_⟩
              · have hask := find_ask (P := P) (K := K) (eq := fun a b => @decide (a = b) (d a b)) (x := x) (kv := .agg l.toArray) (fun y v w hv => by
                  simp only [valT] at hv
                  split at hv
                  · rename_i m hm
                    obtain rfl := Option.some.inj hv
                    exact (hf d x y l m hl hm).2 w
                  · cases hv) hr 0 w
                rw [foundAt_zero] at hask
                unfold Instr.findKey
                simp only [Sem.run_bind, run_underlying hu, Result.andThen_ok]
                cases hes : es.toList with
                | nil =>
                  rw [hes] at hr
                  cases hr
                  simp [Instr.findNow, foundAt, idxK]
                | cons e r =>
                  have hn0 : Instr.findNow (.struct fs) (.agg l.toArray) (e :: r) 0 = none := by simp [Instr.findNow, Instr.sameNow]
                  rw [hn0, ← hes]
                  exact hask
              · simp only [Instr.sameBits, beq_self_eq_true, Bool.true_and]
                exact same_flat hl
            · cases hv
          · cases he
        · cases h
      · cases h
    · cases h
  · cases h
/-! ### Entries and data -/
theorem MapR.len {k v : Ty} {ks : List (Den E.S k)} {vs : List (Den E.S v)} {es : List MapEntry} (h : MapR E k v ks vs es) : ks.length = es.length ∧ vs.length = es.length := by
  induction h with
  | nil => exact ⟨rfl, rfl⟩
  | cons _ _ _ ih => exact ⟨by simp [ih.1], by simp [ih.2]⟩
theorem MapR.get {k v : Ty} {ks : List (Den E.S k)} {vs : List (Den E.S v)} {es : List MapEntry} (h : MapR E k v ks vs es) : ∀ {i : Nat} {e : MapEntry}, es[i]? = some e → ∃ x y, ks[i]? = some x ∧ vs[i]? = some y ∧ valT E k x = some e.key ∧ valT E v y = some e.val := by
  induction h with
  | nil => intro i e h; simp at h
  | @cons x y e ks vs es hk hv _ ih =>
    intro i e' he
    cases i with
    | zero => simp at he; subst he; exact ⟨x, y, rfl, rfl, hk, hv⟩
    | succ i => obtain ⟨x', y', h1, h2, h3⟩ := ih (by simpa using he); exact ⟨x', y', by simpa using h1, by simpa using h2, h3⟩
theorem MapR.push {k v : Ty} {ks : List (Den E.S k)} {vs : List (Den E.S v)} {es : List MapEntry} (h : MapR E k v ks vs es) {x : Den E.S k} {y : Den E.S v} {e : MapEntry} (hk : valT E k x = some e.key) (hv : valT E v y = some e.val) : MapR E k v (ks ++ [x]) (vs ++ [y]) (es ++ [e]) := by
  induction h with
  | nil => exact .cons hk hv .nil
  | cons h1 h2 _ ih => exact .cons h1 h2 ih
theorem MapR.set {k v : Ty} {ks : List (Den E.S k)} {vs : List (Den E.S v)} {es : List MapEntry} (h : MapR E k v ks vs es) {y : Den E.S v} : ∀ {i : Nat} {e e' : MapEntry}, es[i]? = some e → e'.key = e.key → valT E v y = some e'.val → MapR E k v ks (vs.set i y) (es.set i e') := by
  induction h with
  | nil => intro i e e' h; simp at h
  | @cons x y' e0 ks vs es hk hv h ih =>
    intro i e e' he hkey hval
    cases i with
    | zero =>
      simp at he; subst he
      exact .cons (by rw [hkey]; exact hk) hval h
    | succ i => exact .cons hk hv (ih (by simpa using he) hkey hval)
theorem encH_rd {z : Fz} : ∀ {ts : List Ty} {h : HL E.S ts} {l : List Value}, encH E ts h = some l → RD E z ts h l
  | [], _, l, h => by obtain rfl := Option.some.inj h; exact .nil
  | .int k :: ts, hh, l, h => by
    simp only [encH] at h
    split at h
    · rename_i l' hl
      obtain rfl := Option.some.inj h
      exact .int (encH_rd hl)
    · cases h
  | .bool :: ts, hh, l, h => by
    simp only [encH] at h
    split at h
    · rename_i l' hl
      obtain rfl := Option.some.inj h
      exact .bool (encH_rd hl)
    · cases h
  | .str :: ts, hh, l, h => by
    simp only [encH] at h
    split at h
    · rename_i l' hl
      obtain rfl := Option.some.inj h
      exact .str (encH_rd hl)
    · cases h
  | .sl _ :: ts, hh, l, h => by simp [encH] at h
  | .st _ :: ts, hh, l, h => by simp [encH] at h
theorem valT_RT {z : Fz} {t : Ty} {x : Den E.S t} {u v : Value} (h : valT E t x = some u) (hr : RT E z t x v) : v = u := by
  cases t with
  | int k =>
    obtain rfl := Option.some.inj h
    obtain ⟨vs', e, _⟩ := RD.int_inv (show RD E z [.int k] (x, ()) [v] from hr)
    exact (List.cons.inj e).1
  | bool =>
    obtain rfl := Option.some.inj h
    obtain ⟨vs', e, _⟩ := RD.bool_inv (show RD E z [.bool] (x, ()) [v] from hr)
    exact (List.cons.inj e).1
  | str =>
    obtain rfl := Option.some.inj h
    obtain ⟨vs', e, _⟩ := RD.str_inv (show RD E z [.str] (x, ()) [v] from hr)
    exact (List.cons.inj e).1
  | sl t => cases h
  | st n =>
    obtain ⟨vs, rfl, hr⟩ := hr
    simp only [valT] at h
    split at h
    · rename_i l hl
      obtain rfl := Option.some.inj h
      rw [encH_ok hr hl]
    · cases h
/-- Data as a slot. -/
def datV (E : TE) : (t : Ty) → Den E.S t → V1 E
  | .st n, x => .agg (E.cells (.st n) x)
  | t, x => .one (.dt t x)
theorem datV_ok {P : Program} {z : Fz} {g : Ga} {t : Ty} {x : Den E.S t} {u : Value} (h : valT E t x = some u) : R1 P E z g (datV E t x) u := by
  cases t with
  | int k => obtain rfl := Option.some.inj h; exact .int .nil
  | bool => obtain rfl := Option.some.inj h; exact .bool .nil
  | str => obtain rfl := Option.some.inj h; exact .str .nil
  | sl t => cases h
  | st n =>
    simp only [valT] at h
    split at h
    · rename_i l hl
      obtain rfl := Option.some.inj h
      exact ⟨l, rfl, cells_rd.1 (encH_rd hl)⟩
    · cases h
/-- Data off a slot. -/
def keyD (E : TE) (H : Nat → Option (Obj E)) : (t : Ty) → V1 E → Option (Den E.S t)
  | .st n, .agg l => match dataL E H (E.cs n) l with
    | some h => some (E.bd n h)
    | none => none
  | .st _, .one _ => none
  | t, .one c => c.data H t
  | _, .agg _ => none
theorem keyD_RT {P : Program} {z : Fz} {g : Ga} {w w0 : World} {H : Nat → Option (Obj E)} {Bs : List Nat} {F0 : Nat → Prop} {t : Ty} {y : V1 E} {x : Den E.S t} {v : Value} (hH : HR P E Bs F0 w0 w z g H) (h : keyD E H t y = some x) (hr : R1 P E z g y v) : RT E z t x v := by
  cases t with
  | st n =>
    cases y with
    | one c => cases h
    | agg l =>
      simp only [keyD] at h
      split at h
      · rename_i hh hl
        obtain rfl := Option.some.inj h
        obtain ⟨vs, rfl, hv⟩ := hr
        exact ⟨vs, rfl, by rw [E.un_bd]; exact dataL_ok hH hl hv⟩
      · cases h
  | int k => cases y with | one c => exact SC.data_ok hH h hr | agg l => cases h
  | bool => cases y with | one c => exact SC.data_ok hH h hr | agg l => cases h
  | str => cases y with | one c => exact SC.data_ok hH h hr | agg l => cases h
  | sl e => cases y with | one c => exact SC.data_ok hH h hr | agg l => cases h
/-! ### Looking up -/
def zeroX (P : Program) (E : TE) (e : TypeId) (t : Ty) : Option (Den E.S t) := match P.info? e with
  | some i => match i.zero with
    | some zv => match zv with
      | .agg cs => match constCs E cs.toList with
        | some l => keyD E (fun _ => none) t (.agg l)
        | none => none
      | zv => match constC E zv with
        | some c => keyD E (fun _ => none) t (.one c)
        | none => none
    | none => none
  | none => none
theorem zeroX_ok {P : Program} {z : Fz} {g : Ga} {w w0 : World} {H : Nat → Option (Obj E)} {Bs : List Nat} {F0 : Nat → Prop} {e : TypeId} {t : Ty} {x : Den E.S t} {u : Value} (hH : HR P E Bs F0 w0 w z g H) (h : zeroX P E e t = some x) (hu : valT E t x = some u) (w1 : World) : (zeroValue e).run P w1 = .ok u w1 := by
  have hH0 : HR P E Bs F0 w0 w z g (fun _ => none) := hH.less fun _ _ h => nomatch h
  unfold zeroX at h
  split at h
  · rename_i i hi
    split at h
    · rename_i zv hz
      have hrun : (zeroValue e).run P w1 = .ok zv w1 := by
        simp [zeroValue, typeInfo, hi, hz]
      rw [hrun]
      have : zv = u := by
        split at h
        · rename_i cs
          split at h
          · rename_i l hl
            have := keyD_RT hH0 h (g := g) (v := .agg cs) ⟨cs.toList, by simp, constCs_ok hl⟩
            exact valT_RT hu this
          · cases h
        · split at h
          · rename_i c hc
            exact valT_RT hu (keyD_RT hH0 h (g := g) (v := zv) (constC_ok hc))
          · cases h
      rw [this]
    · cases h
  · cases h
def qLookup (P : Program) (E : TE) (eqs : List (Nat × Nat)) (L : Nat → Option (SV E)) (H : Nat → Option (Obj E)) (T : TypeId) (m x : Operand) {R : Type} (k : SV E → Up E → Option R) : Option R :=
  match opS E L m, opS E L x, P.underlying T with
  | some (.v (.one (.mp id))), some (.v y), some (.map K e) => match H id with
    | some (.map _ kt vt ks vs _) => match eqB E kt, keyD E H kt y, zeroX P E e vt with
      | some eq, some kx, some zx => match keyV P E eqs K kt kx, valT E vt zx with
        | some _, some _ => k (.v (datV E vt (mgetD eq ks vs kx zx))) none
        | _, _ => none
      | _, _, _ => none
    | _ => none
  | _, _, _ => none
theorem qLookup_ok {P : Program} {z : Fz} {g : Ga} {nx : Nat} {L : Nat → Option (SV E)} {H : Nat → Option (Obj E)} {ρ : Operand → Value} {W w0 : World} {I : World → Prop} {o : Oper} {R : Type} {k : SV E → Up E → Option R} {r : R} {Bs : List Nat} {F0 : Nat → Prop} {eqs : List (Nat × Nat)} {T : TypeId} {m x : Operand}
    (ho : o.op = .lookup T m x false) (heq : ∀ p ∈ eqs, EqFact P E p.1 p.2) (hρ : OpR P E z g L ρ) (hH : HR P E Bs F0 w0 W z g H) (hI : ∀ w', I w' → Stands z g H W w') (h : qLookup P E eqs L H T m x k = some r) : Good P E z g nx I H ρ o k r := by
  unfold qLookup at h
  split at h
  · rename_i id y K e hm hx hu
    split at h
    · rename_i T' kt vt ks vs foc hi
      split at h
      · rename_i eq kx zx he hk hz
        split at h
        · rename_i kv u hkv hzu
          have hK := keyV_ok heq he hkv
          have ekv : ρ x = kv := valT_RT hK.val (keyD_RT hH hk (hρ x _ hx))
          obtain ⟨l, h1, h2⟩ := hρ m _ hm
          obtain ⟨l', es, c, h3, h4, h5, _⟩ := hH.hold _ _ hi
          rw [h1] at h3; obtain rfl := Option.some.inj h3
          have hlen := h5.rel.len
          have hlt : ∀ i, idxK eq kx ks = some i → i < es.size := fun i hi => by
            obtain ⟨_, yy, h6, _⟩ := idxK_some hi
            have := (List.getElem?_eq_some_iff.1 h6).1
            have := hlen.1
            simp at this
            omega
          have hrun : ∀ w', I w' → (Instr.lookup T (.map (some l.b)) kv false).run P w' = .ok (gotV es u (idxK eq kx ks)) w' := fun w' hw' => by
            have hb' : w'.heap[l.b]? = some (.map es c) := ((hI w' hw').2 id _ l.b hi ⟨l, h1, rfl⟩).trans h4
            exact run_lookup hu hb' hK.chk (hK.find w' h5.rel) (zeroX_ok hH hz hzu w') hlt
          refine .mk' h (v := gotV es u (idxK eq kx ks)) ?_ fun w' hw' => ?_
          · cases hix : idxK eq kx ks with
            | none => rw [mgetD_none hix]; exact datV_ok hzu
            | some i =>
              have hi2 := hlt i hix
              have he2 : es.toList[i]? = some es[i] := by simp [hi2]
              obtain ⟨_, yv, _, h7, _, h9⟩ := h5.rel.get he2
              rw [mgetD_some hix h7]
              have : ((es[i]?).map (·.val)).getD u = es[i].val := by simp [hi2]
              simp only [gotV, this]
              exact datV_ok h9
          · unfold execOp
            simp only [ho, h2, ekv]
            rw [Sem.run_bind, hrun w' hw']
            rfl
        · cases h
      · cases h
    · cases h
  · cases h
end
end Rt
end Go
