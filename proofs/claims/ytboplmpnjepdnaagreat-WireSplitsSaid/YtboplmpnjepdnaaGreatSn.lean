/-
  The second engine: contracts of functions that take and return flat data alone; tables of contracts. No program in sight.
-/
import Derived.Test.YtboplmpnjepdnaaGreatSk
namespace Go
namespace Rt
open Go.RowKit

section
variable {P : Program} {E : TE}
theorem argsO_own : ∀ {ps : List Pm} {a : PA E ps} {n : Nat}, lends ps = false → argsO E ps a n = []
  | [], _, _, _ => rfl
  | .l _ _ :: _, _, _, h => by cases h
  | .g _ _ :: _, _, _, h => by cases h
  | .mp _ _ _ :: _, _, _, h => by cases h
  | .b _ _ :: _, _, _, h => by cases h
  | .d _ :: ps, a, n, h => argsO_own (ps := ps) (a := a.2) (n := n) h
  | .p _ :: ps, a, n, h => argsO_own (ps := ps) (a := a.2) (n := n) h
  | .f1 _ _ :: ps, a, n, h => argsO_own (ps := ps) (a := a.2) (n := n) h
  | .f2 _ _ _ :: ps, a, n, h => argsO_own (ps := ps) (a := a.2) (n := n) h
theorem argsB_own : ∀ {ps : List Pm} {a : PA E ps} {n : Nat}, lends ps = false → argsB E ps a n = []
  | [], _, _, _ => rfl
  | .l _ _ :: _, _, _, h => by cases h
  | .g _ _ :: _, _, _, h => by cases h
  | .mp _ _ _ :: _, _, _, h => by cases h
  | .b _ _ :: _, _, _, h => by cases h
  | .d _ :: ps, a, n, h => argsB_own (ps := ps) (a := a.2) (n := n) h
  | .p _ :: ps, a, n, h => argsB_own (ps := ps) (a := a.2) (n := n) h
  | .f1 _ _ :: ps, a, n, h => argsB_own (ps := ps) (a := a.2) (n := n) h
  | .f2 _ _ _ :: ps, a, n, h => argsB_own (ps := ps) (a := a.2) (n := n) h
theorem callOK_flat {f : FuncId} {ps : List Pm} {r : Ty} {a : PA E ps} {y : Den E.S r} {bh : HL E.S (backs ps)} (hr : r.flatB = true) (hl : lends ps = false) {svs0 : List (V1 E)} {us : List Value} {v : Value} (ha : argsV E ps a 0 = some svs0) (he : encVs svs0 = some us) (hv : (V1.one (.dt r y) : V1 E).enc = some v)
    (h : ∀ w, Ret P f us.toArray w fun u w' => u = v ∧ Ext w w') : CallOK P E f ps [(r, [])] false a (y, ()) bh := by
  intro w z g Bs svs vs hav hH hfr hvs
  rw [ha] at hav
  obtain rfl := Option.some.inj hav
  obtain rfl := (encVs_ok he).1 hvs
  refine (h w).mono fun u w' ⟨hu, hx⟩ => ?_
  subst hu
  refine ⟨z, g, [.one (.dt r y)], Fz.Le.refl z, fun _ => rfl, Ga.Le.refl g, ?_, (show R1 P E z g (.one (.dt r y)) u from (V1.enc_ok hv).2 rfl), ?_⟩
  · cases r with
    | int k => rfl
    | bool => rfl
    | str => rfl
    | _ => cases hr
  · have h1 := hH.ext hx
    rw [argsO_own hl] at h1
    rw [argsB_own hl]
    have h2 : resO E [(r, ([] : Mk))] (y, ()) (cntA E ps) = [] := by
      cases r with
      | int k => rfl
      | bool => rfl
      | str => rfl
      | _ => cases hr
    rw [h2]
    exact h1
/-- Contracts, one after the other. -/
def tnil : Tab E := fun _ => none
theorem tnil_ok : (tnil : Tab E).OK P E := fun _ _ h => by cases h
def tb (f : Nat) (C : Con E) (r : Tab E) : Tab E := fun n => match Nat.beq n f with
  | true => some C
  | false => r n
theorem tb_ok {f : Nat} {C : Con E} {r : Tab E} (h : Con.OK P E f C ∧ bodyB P f = true) (hr : r.OK P E) : (tb f C r).OK P E := fun n D hD => by
  unfold tb at hD
  split at hD
  · rename_i hb
    obtain rfl := Nat.eq_of_beq_eq_true hb
    obtain rfl := Option.some.inj hD
    exact h
  · exact hr n D hD
end
end Rt
end Go
