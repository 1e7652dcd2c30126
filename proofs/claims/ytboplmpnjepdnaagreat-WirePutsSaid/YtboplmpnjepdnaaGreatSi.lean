/-
  The second engine: what comes back of parameters, and functions as a whole. No program in sight.
-/
import Derived.Test.YtboplmpnjepdnaaGreatSh
namespace Go
namespace Rt
open Go.RowKit

section
variable {P : Program} {E : TE} {H : Nat → Option (Obj E)}
theorem backM_ok {m : Mk} : ∀ {ts : List Ty} {h h' : HL E.S ts} {n : Nat}, backM E H m ts h n = some h' → ∀ i o, (i, o) ∈ ownO E m ts h' n → ∃ o1 o2, H i = some o1 ∧ o = some o2 ∧ Cor E H o1 o2 := by
  induction m with
  | nil =>
    intro ts h h' n _ i o hm
    cases ts <;> simp [ownO] at hm
  | cons a m ih =>
    intro ts h h' n hb i o hm
    cases ts with
    | nil => cases a <;> simp [ownO] at hm
    | cons t ts =>
      cases a with
      | none =>
        simp only [backM] at hb
        cases hq : backM E H m ts h.2 n with
        | none => rw [hq] at hb; cases hb
        | some q =>
          rw [hq] at hb
          obtain rfl := Option.some.inj hb
          simp only [ownO] at hm
          exact ih hq i o hm
      | some e =>
        cases t with
        | sl t =>
          simp only [backM] at hb
          cases hn : H n with
          | none => rw [hn] at hb; cases hb
          | some p =>
            cases p with
            | row e' t' xs foc =>
              rw [hn] at hb
              simp only at hb
              split at hb
              · rename_i ht
                subst ht
                cases he : Nat.beq e e' with
                | false => rw [he] at hb; cases hb
                | true =>
                  cases hq : backM E H m ts h.2 (n + 1) with
                  | none => rw [he, hq] at hb; cases hb
                  | some q =>
                    rw [he, hq] at hb
                    obtain rfl := Option.some.inj hb
                    obtain rfl := Nat.eq_of_beq_eq_true he
                    simp only [ownO, List.mem_cons] at hm
                    rcases hm with hm | hm
                    · injection hm with e1 e2
                      subst e1; subst e2
                      exact ⟨_, _, hn, rfl, rfl⟩
                    · exact ih hq i o hm
              · cases hb
            | _ => rw [hn] at hb; cases hb
        | _ => simp [ownO] at hm
theorem backH_ok : ∀ {ps : List Pm} {a : PA E ps} {bh : HL E.S (backs ps)} {n : Nat}, backH E H ps a n = some bh → ∀ i o, (i, o) ∈ argsO E ps (putB E ps a bh) n → ∃ o1 o2, H i = some o1 ∧ o = some o2 ∧ Cor E H o1 o2 := by
  intro ps
  induction ps with
  | nil => intro a bh n _ i o hm; cases hm
  | cons p ps ih =>
    intro a bh n hb i o hm
    cases p with
    | d t => exact ih hb i o hm
    | p t => exact ih hb i o hm
    | f1 x r => exact ih hb i o hm
    | f2 x y r => exact ih hb i o hm
    | l t m =>
      simp only [backH] at hb
      cases h1 : backM E H m (E.flat t) (E.fl t a.1) n with
      | none => rw [h1] at hb; cases hb
      | some h =>
        cases h2 : backH E H ps a.2 (n + cntO m (E.flat t)) with
        | none => rw [h1, h2] at hb; cases hb
        | some q =>
          rw [h1, h2] at hb
          obtain rfl := Option.some.inj hb
          have hm' : (i, o) ∈ ownO E m (E.flat t) (E.fl t (E.ufl t h)) n ++ argsO E ps (putB E ps a.2 q) (n + cntO m (E.flat t)) := hm
          rw [E.fl_ufl] at hm'
          rcases List.mem_append.1 hm' with hm' | hm'
          · exact backM_ok h1 i o hm'
          · exact ih h2 i o hm'
    | b T t =>
      simp only [backH] at hb
      cases hn : H n with
      | none => rw [hn] at hb; cases hb
      | some p =>
        cases p with
        | box T' cs =>
          cases h2 : backH E H ps a.2 (n + 1) with
          | none => rw [hn, h2] at hb; cases hb
          | some q =>
            rw [hn, h2] at hb
            simp only at hb
            cases hT : Nat.beq T T' with
            | false => rw [hT] at hb; cases hb
            | true =>
              cases hd : dataL E H (E.flat t) cs with
              | none => rw [hT, hd] at hb; cases hb
              | some h =>
                rw [hT, hd] at hb
                obtain rfl := Option.some.inj hb
                obtain rfl := Nat.eq_of_beq_eq_true hT
                have hm' : (i, o) ∈ (n, some (Obj.box T (E.cells t (E.ufl t h)))) :: argsO E ps (putB E ps a.2 q) (n + 1) := hm
                rcases List.mem_cons.1 hm' with hm' | hm'
                · injection hm' with e1 e2
                  subst e1; subst e2
                  exact ⟨_, _, hn, rfl, t, h, hd, rfl⟩
                · exact ih h2 i o hm'
        | _ => rw [hn] at hb; cases hb
end
end Rt
end Go
