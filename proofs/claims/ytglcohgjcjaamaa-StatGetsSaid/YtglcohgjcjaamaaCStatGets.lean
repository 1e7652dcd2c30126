/-
  The statement 'StatGetsSaid': for every input the law returns true, and the input reads as it did. No condition beyond the statement's own.
-/
import Derived.Test.YtglcohgjcjaamaaRows
import Derived.Test.YtglcohgjcjaamaaW6
import Derived.Test.YtglcohgjcjaamaaPa
import Derived.Test.YtglcohgjcjaamaaNum
import Derived.Test.YtglcohgjcjaamaaPc
import Derived.Test.YtglcohgjcjaamaaPf
import Derived.Test.YtglcohgjcjaamaaPg
import Derived.Test.YtglcohgjcjaamaaPh
import Derived.ProofKit
namespace Go.Proofs.Ytglcohgjcjaamaa
open Go.ChangeShapes Go.WideShapes Go.ChangeAt Go.RowKit Go.Rt Go.ChangeMaps

theorem statGets_own : ownKnob Try.prog.godebug = none := by kernel_rfl
theorem statGets_laidOut : laidOutB Try.prog = true := by kernel_rfl
set_option maxRecDepth 100000 in
theorem statGets_lifted (os : Os) (started : os.Started) (H : Type) (enc : TypeId × Value → H) :
    ReturnsInHanded {} Try.checked os 10 .any (Rows.statGetsSpec.pre6 enc Try.prog Try.f10 Rows.statGetsRow.domain false) (Rows.statGetsSpec.post enc Try.prog Try.f10 false true false false) := by
  refine returnsInHanded_of_change (C := Try.checked) statGets_own started (by kernel_rfl) Try.func10
    (ChangeSpec.witness6 (enc := enc) (C := Try.checked) false ⟨#[], #[.string ⟨#[]⟩, .int .i64 0], []⟩ 8 (by kernel_rfl) (by kernel_rfl) (by kernel_rfl) (by kernel_rfl)) ?_
  intro W base args ds gs before hval0 hW _ _
  have hval : ∀ (j : Nat) t v, Try.f10.params[j]? = some t → args[j]? = some v → Value.okWide Try.prog W .any base t v := hval0
  have hW' := hW
  obtain ⟨p, q, hA0, hV, rfl, _, _⟩ := hW
  have hA : DataW.TrodAll enc Try.prog W 0 (fun _ => true) true Try.f10.params.toList args.toList ds p := hA0
  rw [Try.params10] at hA hval
  obtain ⟨v0, v1, d0, d1, p0, p1, rfl, rfl, rfl, h0, h1⟩ := trodAll_two hA
  obtain ⟨rfl, rfl⟩ := trodVars_none hV
  clear hA0 hval0
  simp only [List.append_nil] at hW'
  have hlt : ∀ x ∈ p0 ++ p1, x.block < W.heap.size := fun x hx => by simpa using hW'.lt x hx
  have k0 : ∀ x ∈ p0, x.block < W.heap.size := fun x hx => hlt x (List.mem_append.2 (.inl hx))
  have harg0 : ∀ W', Below W.heap.size W W' → DataW.Trod enc Try.prog W' 0 (fun b => decide (b < W.heap.size)) true 9 v0 d0 p0 := fun W' hb => Below.trod statGets_laidOut (by kernel_rfl) (of_decide_eq_true (by kernel_rfl)) h0 hb k0
  obtain ⟨s0, rfl, _, _, w0⟩ := open_string (t := 9) (by kernel_rfl) (hval 0 9 v0 rfl rfl) h0
  have o0 : s0.data.toList.length ≤ 9223372036854775807 := by rw [Array.length_toList]; exact w0
  have k1 : ∀ x ∈ p1, x.block < W.heap.size := fun x hx => hlt x (List.mem_append.2 (.inr hx))
  have harg1 : ∀ W', Below W.heap.size W W' → DataW.Trod enc Try.prog W' 0 (fun b => decide (b < W.heap.size)) true 3 v1 d1 p1 := fun W' hb => Below.trod statGets_laidOut (by kernel_rfl) (of_decide_eq_true (by kernel_rfl)) h1 hb k1
  obtain ⟨x1, rfl, _, _, w1⟩ := open_int (t := 3) (k := .i64) (by kernel_rfl) (hval 1 3 v1 rfl rfl) h1
  have o1 : InK .i64 x1 := by simpa [Lit.wf, InK] using w1
  refine Calls.mono (W_law07_StatGets (s0.data.toList) (x1) true (StatGets_true (s0.data.toList) (x1) o0 o1) W ) fun e W' ⟨v, he, hv, hS⟩ => ?_
  subst he; subst hv
  have hb := hS.chg.below
  refine ⟨_, rfl, _, _, _, [], _, [], hW', ?_, trodAll_mk2 (harg0 W' hb) (harg1 W' hb), rfl, hb.frame _, fun h => by cases h⟩
  exact trodAll_mk1 (shut_bool (t := 4) (by kernel_rfl) true)

theorem statGets_holds : Rows.StatGetsSaid :=
  OpenClaim.holds_of_wide 10 Try.f10 rfl rfl rfl rfl rfl rfl rfl ⟨rfl, rfl, rfl, rfl, rfl⟩ rfl rfl rfl rfl rfl (by kernel_rfl) Try.func10 (by kernel_rfl)
    (of_decide_eq_true (by kernel_rfl)) (by unfold Func.isWrapper; first | (rw [if_pos (by decide +kernel)]; kernel_rfl) | (rw [if_neg (by decide +kernel)]; exact ⟨rfl, rfl⟩))
    (fun os started H enc _ => statGets_lifted os started H enc)
end Go.Proofs.Ytglcohgjcjaamaa
