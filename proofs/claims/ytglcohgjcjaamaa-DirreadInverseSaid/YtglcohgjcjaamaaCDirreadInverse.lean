/-
  The statement 'DirreadInverseSaid': for every input the law returns true, and the input reads as it did. No condition beyond the statement's own.
-/
import Derived.Test.YtglcohgjcjaamaaRows
import Derived.Test.YtglcohgjcjaamaaW5
import Derived.Test.YtglcohgjcjaamaaNum
import Derived.Test.YtglcohgjcjaamaaPa
import Derived.Test.YtglcohgjcjaamaaPb
import Derived.Test.YtglcohgjcjaamaaPc
import Derived.Test.YtglcohgjcjaamaaPd
import Derived.Test.YtglcohgjcjaamaaPe
import Derived.Test.YtglcohgjcjaamaaPf
import Derived.Test.YtglcohgjcjaamaaPg
import Derived.Test.YtglcohgjcjaamaaPh
import Derived.Test.YtglcohgjcjaamaaPi
import Derived.Test.YtglcohgjcjaamaaPj
import Derived.Test.YtglcohgjcjaamaaPk
import Derived.Test.YtglcohgjcjaamaaPl
import Derived.Test.YtglcohgjcjaamaaPm
import Derived.Test.YtglcohgjcjaamaaPn
import Derived.Test.YtglcohgjcjaamaaPo
import Derived.ProofKit
namespace Go.Proofs.Ytglcohgjcjaamaa
open Go.ChangeShapes Go.WideShapes Go.ChangeAt Go.RowKit Go.Rt Go.ChangeMaps

theorem dirreadInverse_own : ownKnob Try.prog.godebug = none := by kernel_rfl
theorem dirreadInverse_laidOut : laidOutB Try.prog = true := by kernel_rfl
set_option maxRecDepth 100000 in
theorem dirreadInverse_lifted (os : Os) (started : os.Started) (H : Type) (enc : TypeId × Value → H) :
    ReturnsInHanded {} Try.checked os 15 .any (Rows.dirreadInverseSpec.pre6 enc Try.prog Try.f15 Rows.dirreadInverseRow.domain false) (Rows.dirreadInverseSpec.post enc Try.prog Try.f15 false true false false) := by
  refine returnsInHanded_of_change (C := Try.checked) dirreadInverse_own started (by kernel_rfl) Try.func15
    (ChangeSpec.witness6 (enc := enc) (C := Try.checked) false ⟨#[], #[.slice none 0 0, .int .i64 0], []⟩ 8 (by kernel_rfl) (by kernel_rfl) (by kernel_rfl) (by kernel_rfl)) ?_
  intro W base args ds gs before hval0 hW _ _
  have hval : ∀ (j : Nat) t v, Try.f15.params[j]? = some t → args[j]? = some v → Value.okWide Try.prog W .any base t v := hval0
  have hW' := hW
  obtain ⟨p, q, hA0, hV, rfl, _, _⟩ := hW
  have hA : DataW.TrodAll enc Try.prog W 0 (fun _ => true) true Try.f15.params.toList args.toList ds p := hA0
  rw [Try.params15] at hA hval
  obtain ⟨v0, v1, d0, d1, p0, p1, rfl, rfl, rfl, h0, h1⟩ := trodAll_two hA
  obtain ⟨rfl, rfl⟩ := trodVars_none hV
  clear hA0 hval0
  simp only [List.append_nil] at hW'
  have hlt : ∀ x ∈ p0 ++ p1, x.block < W.heap.size := fun x hx => by simpa using hW'.lt x hx
  have k0 : ∀ x ∈ p0, x.block < W.heap.size := fun x hx => hlt x (List.mem_append.2 (.inl hx))
  have harg0 : ∀ W', Below W.heap.size W W' → DataW.Trod enc Try.prog W' 0 (fun b => decide (b < W.heap.size)) true 31 v0 d0 p0 := fun W' hb => Below.trod dirreadInverse_laidOut (by kernel_rfl) (of_decide_eq_true (by kernel_rfl)) h0 hb k0
  obtain ⟨A0, l0, k0c, r0, rfl, n0, c0, i0, m0⟩ := open_rows (n := 9) (c := 13) (t := 31) (e := 27) (ks := [.int .i64, .int .i64, .int .i64, .int .i64, .int .i64, .int .i64, .int .i64, .int .i64, .int .i64, .str, .str, .str, .str]) (by kernel_rfl) (by kernel_rfl) (by kernel_rfl) (by decide) (hval 0 31 v0 rfl rfl) h0 k0
  obtain ⟨x0, rfl, o0⟩ := rows_plain api_Dir.decode c0
  rw [List.length_map] at n0
  subst n0
  have k1 : ∀ x ∈ p1, x.block < W.heap.size := fun x hx => hlt x (List.mem_append.2 (.inr hx))
  have harg1 : ∀ W', Below W.heap.size W W' → DataW.Trod enc Try.prog W' 0 (fun b => decide (b < W.heap.size)) true 3 v1 d1 p1 := fun W' hb => Below.trod dirreadInverse_laidOut (by kernel_rfl) (of_decide_eq_true (by kernel_rfl)) h1 hb k1
  obtain ⟨x1, rfl, _, _, w1⟩ := open_int (t := 3) (k := .i64) (by kernel_rfl) (hval 1 3 v1 rfl rfl) h1
  have o1 : InK .i64 x1 := by simpa [Lit.wf, InK] using w1
  refine Calls.mono (W_law11_DirreadInverse (x0) (x1) true (DirreadInverse_true (x0) (x1) o0 m0 o1) W i0) fun e W' ⟨v, he, hv, hS⟩ => ?_
  subst he; subst hv
  have hb := hS.chg.below
  refine ⟨_, rfl, _, _, _, [], _, [], hW', ?_, trodAll_mk2 (harg0 W' hb) (harg1 W' hb), rfl, hb.frame _, fun h => by cases h⟩
  exact trodAll_mk1 (shut_bool (t := 4) (by kernel_rfl) true)

theorem dirreadInverse_holds : Rows.DirreadInverseSaid :=
  OpenClaim.holds_of_wide 15 Try.f15 rfl rfl rfl rfl rfl rfl rfl ⟨rfl, rfl, rfl, rfl, rfl⟩ rfl rfl rfl rfl rfl (by kernel_rfl) Try.func15 (by kernel_rfl)
    (of_decide_eq_true (by kernel_rfl)) (by unfold Func.isWrapper; first | (rw [if_pos (by decide +kernel)]; kernel_rfl) | (rw [if_neg (by decide +kernel)]; exact ⟨rfl, rfl⟩))
    (fun os started H enc _ => dirreadInverse_lifted os started H enc)
end Go.Proofs.Ytglcohgjcjaamaa
