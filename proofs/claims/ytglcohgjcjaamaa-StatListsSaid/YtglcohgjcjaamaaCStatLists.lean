/-
  The statement 'StatListsSaid': for every input the law returns true, and the input reads as it did. No condition beyond the statement's own.
-/
import Derived.Test.YtglcohgjcjaamaaRows
import Derived.Test.YtglcohgjcjaamaaW6
import Derived.Test.YtglcohgjcjaamaaPa
import Derived.Test.YtglcohgjcjaamaaNum
import Derived.Test.YtglcohgjcjaamaaPc
import Derived.Test.YtglcohgjcjaamaaPd
import Derived.Test.YtglcohgjcjaamaaPe
import Derived.Test.YtglcohgjcjaamaaPf
import Derived.Test.YtglcohgjcjaamaaPg
import Derived.Test.YtglcohgjcjaamaaPh
import Derived.Test.YtglcohgjcjaamaaPi
import Derived.ProofKit
namespace Go.Proofs.Ytglcohgjcjaamaa
open Go.ChangeShapes Go.WideShapes Go.ChangeAt Go.RowKit Go.Rt Go.ChangeMaps

theorem statLists_own : ownKnob Try.prog.godebug = none := by kernel_rfl
theorem statLists_laidOut : laidOutB Try.prog = true := by kernel_rfl
set_option maxRecDepth 100000 in
theorem statLists_lifted (os : Os) (started : os.Started) (H : Type) (enc : TypeId × Value → H) :
    ReturnsInHanded {} Try.checked os 13 .any (Rows.statListsSpec.pre6 enc Try.prog Try.f13 Rows.statListsRow.domain false) (Rows.statListsSpec.post enc Try.prog Try.f13 false true false false) := by
  refine returnsInHanded_of_change (C := Try.checked) statLists_own started (by kernel_rfl) Try.func13
    (ChangeSpec.witness6 (enc := enc) (C := Try.checked) false ⟨#[], #[.string ⟨#[]⟩], []⟩ 8 (by kernel_rfl) (by kernel_rfl) (by kernel_rfl) (by kernel_rfl)) ?_
  intro W base args ds gs before hval0 hW _ _
  have hval : ∀ (j : Nat) t v, Try.f13.params[j]? = some t → args[j]? = some v → Value.okWide Try.prog W .any base t v := hval0
  have hW' := hW
  obtain ⟨p, q, hA0, hV, rfl, _, _⟩ := hW
  have hA : DataW.TrodAll enc Try.prog W 0 (fun _ => true) true Try.f13.params.toList args.toList ds p := hA0
  rw [Try.params13] at hA hval
  obtain ⟨v0, d0, rfl, rfl, h0⟩ := trodAll_one hA
  obtain ⟨rfl, rfl⟩ := trodVars_none hV
  clear hA0 hval0
  simp only [List.append_nil] at hW'
  have hlt : ∀ x ∈ p, x.block < W.heap.size := fun x hx => by simpa using hW'.lt x hx
  have k0 : ∀ x ∈ p, x.block < W.heap.size := fun x hx => hlt x hx
  have harg0 : ∀ W', Below W.heap.size W W' → DataW.Trod enc Try.prog W' 0 (fun b => decide (b < W.heap.size)) true 9 v0 d0 p := fun W' hb => Below.trod statLists_laidOut (by kernel_rfl) (of_decide_eq_true (by kernel_rfl)) h0 hb k0
  obtain ⟨s0, rfl, _, _, w0⟩ := open_string (t := 9) (by kernel_rfl) (hval 0 9 v0 rfl rfl) h0
  have o0 : s0.data.toList.length ≤ 9223372036854775807 := by rw [Array.length_toList]; exact w0
  refine Calls.mono (W_law07_StatLists (s0.data.toList) true (StatLists_true (s0.data.toList) o0) W ) fun e W' ⟨v, he, hv, hS⟩ => ?_
  subst he; subst hv
  have hb := hS.chg.below
  refine ⟨_, rfl, _, _, _, [], _, [], hW', ?_, trodAll_mk1 (harg0 W' hb), rfl, hb.frame _, fun h => by cases h⟩
  exact trodAll_mk1 (shut_bool (t := 4) (by kernel_rfl) true)

theorem statLists_holds : Rows.StatListsSaid :=
  OpenClaim.holds_of_wide 13 Try.f13 rfl rfl rfl rfl rfl rfl rfl ⟨rfl, rfl, rfl, rfl, rfl⟩ rfl rfl rfl rfl rfl (by kernel_rfl) Try.func13 (by kernel_rfl)
    (of_decide_eq_true (by kernel_rfl)) (by unfold Func.isWrapper; first | (rw [if_pos (by decide +kernel)]; kernel_rfl) | (rw [if_neg (by decide +kernel)]; exact ⟨rfl, rfl⟩))
    (fun os started H enc _ => statLists_lifted os started H enc)
end Go.Proofs.Ytglcohgjcjaamaa
