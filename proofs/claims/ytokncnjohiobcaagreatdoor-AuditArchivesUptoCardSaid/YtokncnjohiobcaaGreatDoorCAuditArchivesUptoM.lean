/-
  The statement 'AuditArchivesUptoCardSaid': what its card asks of the program. No condition beyond the statement's own.
-/
import Derived.Test.YtokncnjohiobcaaGreatDoorRows
import Derived.SevenTiedAt
import Derived.KernelRfl
namespace Go.Proofs.YtokncnjohiobcaaGreatDoor
open Go
set_option maxRecDepth 100000
theorem auditArchivesUpto_main : Tryz.prog.mainIs = some ((true, "7e6eaadb7e4f2646f2b3a5db398039cef5ceb8a18d606bab379f5e5b4ede2d9c").1, (true, "7e6eaadb7e4f2646f2b3a5db398039cef5ceb8a18d606bab379f5e5b4ede2d9c").2.toList) := by kernel_rfl
theorem auditArchivesUpto_looks : false = Tryz.prog.looks [] := by kernel_rfl
theorem auditArchivesUpto_goesNone {P : Program} (h : P.funcs.any Func.goes = false) (f : FuncId) : P.goes f = false := by
  have h1 : ∀ g : Nat, (P.funcs[g]?).any Func.goes = false := fun g => by
    cases e : P.funcs[g]? with
    | none => rfl
    | some fn =>
      obtain ⟨hl, rfl⟩ := Array.getElem?_eq_some_iff.1 e
      have := Array.any_eq_false.1 h g hl
      simpa using this
  unfold Program.goes
  rw [h, Bool.and_false, Bool.or_false, List.any_eq_false]
  intro g _
  rw [h1 g]
  exact Bool.false_ne_true
theorem auditArchivesUpto_goesAt {P : Program} (h : P.funcs.any Func.goes = false) (s : Start) (n : String) : false = P.goesAt s n := by
  unfold Program.goesAt Program.goesFrom
  have h1 : (P.funcNamed n).any P.goes = false := by
    cases P.funcNamed n with
    | none => rfl
    | some f => exact auditArchivesUpto_goesNone h f
  rw [h1, Bool.false_or]
  cases s with
  | entering => rfl
  | _ =>
    symm
    rw [List.any_eq_false]
    intro f _
    rw [auditArchivesUpto_goesNone h f]
    exact Bool.false_ne_true
theorem auditArchivesUpto_goes0 : Tryz.prog.funcs.any Func.goes = false := by kernel_rfl
theorem auditArchivesUpto_goes : false = Rows.auditArchivesUptoRow.goesBy Tryz.prog := auditArchivesUpto_goesAt auditArchivesUpto_goes0 _ _
end Go.Proofs.YtokncnjohiobcaaGreatDoor
