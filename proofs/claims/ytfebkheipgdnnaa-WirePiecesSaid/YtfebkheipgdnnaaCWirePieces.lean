/-
  The statement 'WirePiecesSaid': for every input the law returns true, and the input reads as it did. No condition beyond the statement's own.
-/
import Derived.Test.YtfebkheipgdnnaaRows
import Derived.Test.YtfebkheipgdnnaaSo
import Derived.Test.YtfebkheipgdnnaaK1
import Derived.Test.YtfebkheipgdnnaaQx3
import Derived.ProofKit
namespace Go.Proofs.Ytfebkheipgdnnaa
open Go.ChangeShapes Go.WideShapes Go.ChangeAt Go.RowKit Go.Rt Go.ChangeMaps

theorem wirePieces_own : ownKnob Try.prog.godebug = none := by kernel_rfl
theorem wirePieces_laidOut : laidOutB Try.prog = true := by kernel_rfl
set_option maxRecDepth 100000 in
theorem wirePieces_lifted (os : Os) (started : os.Started) (H : Type) (enc : TypeId × Value → H) :
    ReturnsInHanded {} Try.checked os 5 .any (Rows.wirePiecesSpec.pre6 enc Try.prog Try.f5 Rows.wirePiecesRow.domain false) (Rows.wirePiecesSpec.post enc Try.prog Try.f5 false true false false) := by
  refine returnsInHanded_of_change (C := Try.checked) wirePieces_own started (by kernel_rfl) Try.func5
    (ChangeSpec.witness6 (enc := enc) (C := Try.checked) false ⟨#[], #[.string ⟨#[]⟩, .int .i64 0, .int .i64 0], []⟩ 8 (by kernel_rfl) (by kernel_rfl) (by kernel_rfl) (by kernel_rfl)) ?_
  intro W base args ds gs before hval0 hW _ _
  have hval : ∀ (j : Nat) t v, Try.f5.params[j]? = some t → args[j]? = some v → Value.okWide Try.prog W .any base t v := hval0
  have hW' := hW
  obtain ⟨p, q, hA0, hV, rfl, _, _⟩ := hW
  have hA : DataW.TrodAll enc Try.prog W 0 (fun _ => true) true Try.f5.params.toList args.toList ds p := hA0
  rw [Try.params5] at hA hval
  obtain ⟨v0, v1, v2, d0, d1, d2, p0, p1, p2, rfl, rfl, rfl, h0, h1, h2⟩ := trodAll_three hA
  obtain ⟨rfl, rfl⟩ := trodVars_none hV
  clear hA0 hval0
  simp only [List.append_nil] at hW'
  have hlt : ∀ x ∈ p0 ++ p1 ++ p2, x.block < W.heap.size := fun x hx => by simpa using hW'.lt x hx
  have k0 : ∀ x ∈ p0, x.block < W.heap.size := fun x hx => hlt x (List.mem_append.2 (.inl (List.mem_append.2 (.inl hx))))
  have harg0 : ∀ W', Below W.heap.size W W' → DataW.Trod enc Try.prog W' 0 (fun b => decide (b < W.heap.size)) true 9 v0 d0 p0 := fun W' hb => Below.trod wirePieces_laidOut (by kernel_rfl) (of_decide_eq_true (by kernel_rfl)) h0 hb k0
  obtain ⟨x0, ⟨y0, e0, r0⟩, f0⟩ := open_arg (P := Try.prog) (E := te) (n := 12) (t := .str) (by kernel_rfl) (hval 0 9 v0 rfl rfl) h0
  have k1 : ∀ x ∈ p1, x.block < W.heap.size := fun x hx => hlt x (List.mem_append.2 (.inl (List.mem_append.2 (.inr hx))))
  have harg1 : ∀ W', Below W.heap.size W W' → DataW.Trod enc Try.prog W' 0 (fun b => decide (b < W.heap.size)) true 3 v1 d1 p1 := fun W' hb => Below.trod wirePieces_laidOut (by kernel_rfl) (of_decide_eq_true (by kernel_rfl)) h1 hb k1
  obtain ⟨x1, ⟨y1, e1, r1⟩, f1⟩ := open_arg (P := Try.prog) (E := te) (n := 12) (t := (.int .i64)) (by kernel_rfl) (hval 1 3 v1 rfl rfl) h1
  have k2 : ∀ x ∈ p2, x.block < W.heap.size := fun x hx => hlt x (List.mem_append.2 (.inr hx))
  have harg2 : ∀ W', Below W.heap.size W W' → DataW.Trod enc Try.prog W' 0 (fun b => decide (b < W.heap.size)) true 3 v2 d2 p2 := fun W' hb => Below.trod wirePieces_laidOut (by kernel_rfl) (of_decide_eq_true (by kernel_rfl)) h2 hb k2
  obtain ⟨x2, ⟨y2, e2, r2⟩, f2⟩ := open_arg (P := Try.prog) (E := te) (n := 12) (t := (.int .i64)) (by kernel_rfl) (hval 2 3 v2 rfl rfl) h2
  have hcall := law_of_con (E := te) (ps := [.d .str, .d (.int .i64), .d (.int .i64)]) (ali := false) (F := fun a => law09_WirePieces a.1 a.2.1 a.2.2.1) ok_5.1 rfl (a := (x0, x1, x2, ())) (y := true) (WirePieces_fit x0 x1 x2 f0 f1 f2) rfl (svs := [y0, y1, y2]) (by simp only [argsV, e0, e1, e2]) (.cons (r0 _) (.cons (r1 _) (.cons (r2 _) .nil)))
  refine Calls.mono hcall fun e W' ⟨v, he, hv, hb⟩ => ?_
  subst he; subst hv
  refine ⟨_, rfl, _, _, _, [], _, [], hW', ?_, trodAll_mk3 (harg0 W' hb) (harg1 W' hb) (harg2 W' hb), rfl, hb.frame _, fun h => by cases h⟩
  exact trodAll_mk1 (shut_bool (t := 4) (by kernel_rfl) true)

theorem wirePieces_holds : Rows.WirePiecesSaid :=
  OpenClaim.holds_of_wide 5 Try.f5 rfl rfl rfl rfl rfl rfl rfl ⟨rfl, rfl, rfl, rfl, rfl⟩ rfl rfl rfl rfl rfl (by kernel_rfl) Try.func5 (by kernel_rfl)
    (of_decide_eq_true (by kernel_rfl)) (by unfold Func.isWrapper; first | (rw [if_pos (by decide +kernel)]; kernel_rfl) | (rw [if_neg (by decide +kernel)]; exact ⟨rfl, rfl⟩))
    (fun os started H enc _ => wirePieces_lifted os started H enc)
end Go.Proofs.Ytfebkheipgdnnaa
