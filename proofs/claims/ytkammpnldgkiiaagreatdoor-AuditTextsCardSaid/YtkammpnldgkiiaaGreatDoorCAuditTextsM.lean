/-
  The statement 'AuditTextsCardSaid': what its card asks of the program. No condition beyond the statement's own.
-/
import Derived.Test.YtkammpnldgkiiaaGreatDoorRows
import Derived.SevenTiedAt
import Derived.KernelRfl
namespace Go.Proofs.YtkammpnldgkiiaaGreatDoor
open Go
set_option maxRecDepth 100000
theorem auditTexts_main : Tryz.prog.mainIs = some ((true, "1bb7eb2cac2960a5f4c7b0355f57bd84788655b4553f35bffffe56ab9505ba37").1, (true, "1bb7eb2cac2960a5f4c7b0355f57bd84788655b4553f35bffffe56ab9505ba37").2.toList) := by kernel_rfl
theorem auditTexts_looks : false = Tryz.prog.looks [] := by kernel_rfl
theorem auditTexts_goesNone {P : Program} (h : P.funcs.any Func.goes = false) (f : FuncId) : P.goes f = false := by
  have h1 : ∀ g : Nat, (P.funcs[g]?).any Func.goes = false := fun g => by
    cases e : P.funcs[g]? with
    | none => rfl
    | some fn =>
      obtain ⟨hl, rfl⟩ := Array.getElem?_eq_some_iff.1 e
      have := Array.any_eq_false.1 h g hl
      simpa using this
  unfold Program.goes
  rw [h, Bool.and_false, Bool.or_false, List.any_eq_false]
  intro g _
  rw [h1 g]
  exact Bool.false_ne_true
theorem auditTexts_goesAt {P : Program} (h : P.funcs.any Func.goes = false) (s : Start) (n : String) : false = P.goesAt s n := by
  unfold Program.goesAt Program.goesFrom
  have h1 : (P.funcNamed n).any P.goes = false := by
    cases P.funcNamed n with
    | none => rfl
    | some f => exact auditTexts_goesNone h f
  rw [h1, Bool.false_or]
  cases s with
  | entering => rfl
  | _ =>
    symm
    rw [List.any_eq_false]
    intro f _
    rw [auditTexts_goesNone h f]
    exact Bool.false_ne_true
theorem auditTexts_goes0 : Tryz.prog.funcs.any Func.goes = false := by kernel_rfl
theorem auditTexts_goes : false = Rows.auditTextsRow.goesBy Tryz.prog := auditTexts_goesAt auditTexts_goes0 _ _
end Go.Proofs.YtkammpnldgkiiaaGreatDoor
