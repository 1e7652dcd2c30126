/-
  The second engine, tenth text: a call, on the caller's side: what is handed over, and what comes back. No program in sight.
-/
import Derived.Test.YtboplmpnjepdnaaGreatRi
namespace Go
namespace Rt
open Go.RowKit

section
variable {P : Program} {E : TE} {z z' : Fz} {g g' : Ga} {nx : Nat} {w w' w0 : World} {H H' : Nat → Option (Obj E)} {Bs : List Nat} {F0 : Nat → Prop}
/-! ### What is handed over -/
def V1.cs : V1 E → List (SC E)
  | .one c => [c]
  | .agg l => l
def V1.fits : Ty → V1 E → Bool
  | .st _, .agg _ => true
  | .st _, .one _ => false
  | _, .one _ => true
  | _, .agg _ => false
def takeD (E : TE) (H : Nat → Option (Obj E)) (t : Ty) (x : V1 E) : Option (Den E.S t) := match V1.fits t x, dataL E H (E.flat t) x.cs with
  | true, some h => some (E.ufl t h)
  | _, _ => none
theorem asV_ok {t : Ty} {x : V1 E} {l : List (SC E)} {v : Value} (hf : V1.fits t x = true) (hl : l.length = x.cs.length) (hr : R1 P E z g x v) (hlr : ∀ vs, All2 (RC P E z g) x.cs vs → All2 (RC P E z' g') l vs) :
    ∃ y, asV E t l = some y ∧ R1 P E z' g' y v := by
  cases x with
  | one c =>
    obtain ⟨d, rfl⟩ : ∃ d, l = [d] := by
      match l, hl with
      | [d], _ => exact ⟨d, rfl⟩
    have h1 := hlr [v] (.cons hr .nil)
    cases h1 with
    | cons h1 _ =>
      cases t with
      | st n => cases hf
      | _ => exact ⟨_, rfl, h1⟩
  | agg m =>
    obtain ⟨vs, rfl, hr⟩ := hr
    cases t with
    | st n => exact ⟨_, rfl, vs, rfl, hlr vs hr⟩
    | _ => cases hf
theorem dataL_len : ∀ {ts : List Ty} {cs : List (SC E)} {h : HL E.S ts}, dataL E H ts cs = some h → cs.length = ts.length
  | [], [], _, _ => rfl
  | t :: ts, c :: cs, h, e => by
    simp only [dataL] at e
    split at e
    · cases e
    · split at e
      · rename_i hh
        simp [dataL_len hh]
      · cases e
  | [], c :: cs, _, e => by simp [dataL] at e
  | t :: ts, [], _, e => by simp [dataL] at e
theorem hlc_len : ∀ (ts : List Ty) (h : HL E.S ts), (hlc E ts h).length = ts.length
  | [], _ => rfl
  | _ :: ts, h => by simp [hlc, hlc_len ts h.2]
theorem takeD_ok {t : Ty} {x : V1 E} {d : Den E.S t} {v : Value} (hH : HR P E Bs F0 w0 w z g H) (h : takeD E H t x = some d) (hr : R1 P E z g x v) (g' : Ga) : ∃ y, asV E t (E.cells t d) = some y ∧ R1 P E z g' y v := by
  unfold takeD at h
  split at h
  · rename_i hd hf hh
    obtain rfl := Option.some.inj h
    refine asV_ok hf ?_ hr fun vs hvs => ?_
    · unfold TE.cells; rw [hlc_len, dataL_len hh]
    · refine cells_rd.1 ?_
      rw [E.fl_ufl]
      exact dataL_ok hH hh hvs
  · cases h
/-- Cells, of which the marked ones are rows of one's own; their numbers. -/
def takeM (E : TE) (H : Nat → Option (Obj E)) : Mk → (ts : List Ty) → List (SC E) → Option (HL E.S ts × List Nat)
  | some e :: ms, .sl t :: ts, .own id :: cs => match H id with
    | some (.row e' t' xs _) => if ht : t' = t then match Nat.beq e e', takeM E H ms ts cs with
        | true, some q => some ((castL ht xs, q.1), id :: q.2)
        | _, _ => none
      else none
    | _ => none
  | none :: ms, t :: ts, c :: cs => match c.data H t, takeM E H ms ts cs with
    | some x, some q => some ((x, q.1), q.2)
    | _, _ => none
  | [], ts, cs => match dataL E H ts cs with
    | some h => some (h, [])
    | none => none
  | _, _, _ => none
/-- A function value that stands for a function on plain data. -/
def capsD (E : TE) (H : Nat → Option (Obj E)) : (ps : List Pm) → List Nat → Option (PA E ps)
  | [], [] => some ()
  | .p t :: ps, id :: ids => match H id with
    | some (.fb t' x) => if ht : t' = t then match capsD E H ps ids with
        | some a => some (ht ▸ x, a)
        | none => none
      else none
    | _ => none
  | _, _ => none
abbrev Tab (E : TE) := FuncId → Option (Con E)
def headA (E : TE) {p : Pm} {ps : List Pm} {t : Ty} (h : p = .d t) (x : Den E.S t) (a : PA E ps) : PA E (p :: ps) := h ▸ (x, a)
/-- The results of a function of one result. -/
def res1 {E : TE} {rs : Rs} {t : Ty} (h : rs = [(t, [])]) (x : HL E.S rs.ts) : Den E.S t := by subst h; exact x.1
def takeF1 (E : TE) (tab : Tab E) (H : Nat → Option (Obj E)) (x r : Ty) : SC E → Option (Den E.S x → Option (Den E.S r))
  | .fn1 x' r' f => if h : x' = x ∧ r' = r then some (h.1 ▸ h.2 ▸ f) else none
  | .clo f ids => match tab f with
    | some C => match hps : C.ps with
      | .d x' :: ps => if hx : x' = x then if hr : C.rs = [(r, [])] then match r.flatB && !C.ali, capsD E H ps ids with
            | true, some caps => some fun y => C.F (Den E.S r) (hps ▸ ((hx ▸ y, caps) : PA E (.d x' :: ps))) fun rh _ => some (res1 hr rh)
            | _, _ => none
          else none else none
      | _ => none
    | none => none
  | _ => none
def takeF2 (E : TE) (tab : Tab E) (H : Nat → Option (Obj E)) (x y r : Ty) : SC E → Option (Den E.S x → Den E.S y → Option (Den E.S r))
  | .fn2 x' y' r' f => if h : x' = x ∧ y' = y ∧ r' = r then some (h.1 ▸ h.2.1 ▸ h.2.2 ▸ f) else none
  | .clo f ids => match tab f with
    | some C => match hps : C.ps with
      | .d x' :: .d y' :: ps => if hx : x' = x then if hy : y' = y then if hr : C.rs = [(r, [])] then match r.flatB && !C.ali, capsD E H ps ids with
            | true, some caps => some fun u v => C.F (Den E.S r) (hps ▸ ((hx ▸ u, hy ▸ v, caps) : PA E (.d x' :: .d y' :: ps))) fun rh _ => some (res1 hr rh)
            | _, _ => none
          else none else none else none
      | _ => none
    | none => none
  | _ => none
def takeA (E : TE) (tab : Tab E) (H : Nat → Option (Obj E)) : (ps : List Pm) → List (V1 E) → Option (PA E ps × List Nat)
  | [], [] => some ((), [])
  | .d t :: ps, x :: xs => match takeD E H t x, takeA E tab H ps xs with
    | some d, some q => some ((d, q.1), q.2)
    | _, _ => none
  | .l t m :: ps, x :: xs => match V1.fits t x, takeM E H m (E.flat t) x.cs, takeA E tab H ps xs with
    | true, some d, some q => some ((E.ufl t d.1, q.1), d.2 ++ q.2)
    | _, _, _ => none
  | .g t m :: ps, x :: xs => match V1.fits t x, takeM E H m (E.flat t) x.cs, takeA E tab H ps xs with
    | true, some d, some q => some ((E.ufl t d.1, q.1), d.2 ++ q.2)
    | _, _, _ => none
  | .b T t :: ps, .one (.ptr id 0) :: xs => match H id, takeA E tab H ps xs with
    | some (.box T' cs), some q => match Nat.beq T T', dataL E H (E.flat t) cs with
      | true, some h => some ((E.ufl t h, q.1), id :: q.2)
      | _, _ => none
    | _, _ => none
  | .mp T k v :: ps, .one (.mp id) :: xs => match H id, takeA E tab H ps xs with
    | some (.map T' k' v' ks vs _), some q => if ht : k' = k ∧ v' = v then match Nat.beq T T' with
        | true => some (((castL ht.1 ks, castL ht.2 vs), q.1), id :: q.2)
        | false => none
      else none
    | _, _ => none
  | .p t :: ps, .one (.elf t' x 0) :: xs => if ht : t' = t then match takeA E tab H ps xs with
      | some q => some ((ht ▸ x, q.1), q.2)
      | none => none
    else none
  | .p t :: ps, .one (.ptr id 0) :: xs => match H id with
    | some (.fb t' x) => if ht : t' = t then match takeA E tab H ps xs with
        | some q => some ((ht ▸ x, q.1), q.2)
        | none => none
      else none
    | _ => none
  | .f1 x r :: ps, .one c :: xs => match takeF1 E tab H x r c, takeA E tab H ps xs with
    | some f, some q => some ((f, q.1), q.2)
    | _, _ => none
  | .f2 x y r :: ps, .one c :: xs => match takeF2 E tab H x y r c, takeA E tab H ps xs with
    | some f, some q => some ((f, q.1), q.2)
    | _, _ => none
  | _, _ => none
/-- The rows of the caller's own, or its variables, that are handed over, as the called function numbers them. -/
def gOf (g : Ga) (I : List Nat) : Ga := fun i => match I[i]? with
  | some id => g id
  | none => none
/-- What the called function knows of an object. -/
def Cor (E : TE) (H : Nat → Option (Obj E)) : Obj E → Obj E → Prop
  | .row e t xs _, o => o = .row e t xs []
  | .map T k v ks vs _, o => o = .map T k v ks vs []
  | .box T cs, o => ∃ (t : Ty) (h : HL E.S (E.flat t)), dataL E H (E.flat t) cs = some h ∧ o = .box T (E.cells t (E.ufl t h))
  | _, _ => False
theorem ownO_cor {I : List Nat} {m : Mk} : ∀ {ts : List Ty} {cs : List (SC E)} {q : HL E.S ts × List Nat} {n : Nat}, takeM E H m ts cs = some q → (∀ j id, q.2[j]? = some id → I[n + j]? = some id) →
    (∀ i o, (i, o) ∈ ownO E m ts q.1 n → ∃ id o1 o2, I[i]? = some id ∧ H id = some o1 ∧ o = some o2 ∧ Cor E H o1 o2) ∧ q.2.length = cntO m ts := by
  induction m with
  | nil =>
    intro ts cs q n h hI
    simp only [takeM] at h
    split at h
    · obtain rfl := Option.some.inj h
      refine ⟨fun i o ho => ?_, ?_⟩
      · cases ts <;> simp [ownO] at ho
      · cases ts <;> simp [cntO]
    · cases h
  | cons a m ih =>
    intro ts cs q n h hI
    cases ts with
    | nil => cases a <;> simp [takeM] at h
    | cons t ts =>
      cases a with
      | none =>
        cases cs with
        | nil => simp [takeM] at h
        | cons c cs =>
          simp only [takeM] at h
          split at h
          · rename_i x q' _ hq
            obtain rfl := Option.some.inj h
            simp only [ownO, cntO]
            exact ih hq hI
          · cases h
      | some e =>
        cases t with
        | sl t =>
          cases cs with
          | nil => simp [takeM] at h
          | cons c cs =>
            cases c with
            | own id =>
              simp only [takeM] at h
              split at h
              · rename_i e' t' xs foc hi
                split at h
                · rename_i ht
                  subst ht
                  split at h
                  · rename_i q' hb hq
                    obtain rfl := Option.some.inj h
                    obtain rfl := Nat.eq_of_beq_eq_true hb
                    have h2 := ih (n := n + 1) hq fun j id' hj => by
                      have := hI (j + 1) id' (by simpa using hj)
                      rwa [show n + 1 + j = n + (j + 1) by omega]
                    refine ⟨fun i o ho => ?_, by simp [cntO, h2.2]⟩
                    simp only [ownO, List.mem_cons] at ho
                    rcases ho with ho | ho
                    · simp only [Prod.mk.injEq] at ho
                      obtain ⟨rfl, rfl⟩ := ho
                      exact ⟨id, _, _, by simpa using hI 0 id (by simp), hi, rfl, rfl⟩
                    · exact h2.1 i o ho
                  · cases h
                · cases h
              · cases h
            | _ => simp [takeM] at h
        | _ => cases cs <;> simp [takeM] at h
end
end Rt
end Go
