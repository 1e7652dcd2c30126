/-
  The statement 'ArchiveRestoresSaid': for every input the law returns true, and the input reads as it did. No condition beyond the statement's own.
-/
import Derived.Test.YtfdmakpcmkbhhaaGreatDoorRows
import Derived.Test.YtfdmakpcmkbhhaaGreatDoorCards
import Derived.Test.YtfdmakpcmkbhhaaGreatDoorTie
import Derived.Test.YtfdmakpcmkbhhaaGreatDoorYE7
import Derived.ProofKit
import Derived.SevenTiedAt
namespace Go.Proofs.YtfdmakpcmkbhhaaGreatDoor
open Go.ChangeShapes Go.WideShapes Go.ChangeAt Go.RowKit Go.Rt Go.ChangeMaps
theorem archiveRestores_own : ownKnob Tryz.prog.godebug = none := by kernel_rfl
theorem archiveRestores_laidOut : laidOutB Tryz.prog = true := by kernel_rfl
set_option maxRecDepth 100000 in
theorem archiveRestores_lifted (os : Os) (started : os.Started) (H : Type) (enc : TypeId × Value → H) :
    ReturnsInHanded {} Tryz.checked os 7 .any (fun w args => (Rows.archiveRestoresSpec.pre enc Tryz.prog Tryz.f7 [] false w args ∧ laidMetH Tryz.prog [("filespace/hash.rounds", Rows.laid_filespace_hash_rounds)] w) ∧ sizedMet enc Tryz.prog Tryz.f7 (OpenSpec.ofChange Rows.archiveRestoresSpec) false w args)
      (Rows.archiveRestoresSpec.post enc Tryz.prog Tryz.f7 false true false false) := by
  refine returnsInHanded_of_change_and (C := Tryz.checked) (X := fun w _ => laidMetH Tryz.prog [("filespace/hash.rounds", Rows.laid_filespace_hash_rounds)] w) (fun _ _ _ hh h => h.of_heap hh) archiveRestores_own started (by kernel_rfl) Tryz.func7
    (ChangeSpec.witness_shaped (enc := enc) (C := Tryz.checked) (os := os) (X := fun w _ => laidMetH Tryz.prog [("filespace/hash.rounds", Rows.laid_filespace_hash_rounds)] w) false (World.doorLaid Tryz.prog 14 os) #[.agg #[.int .i64 0, .slice none 0 0], .agg #[.int .i64 0, .slice none 0 0], .agg #[.int .i64 0, .slice none 0 0]] 8 rfl (World.shaped_of_RefB (by kernel_rfl) (by kernel_rfl)) (by kernel_rfl) (by kernel_rfl) (by kernel_rfl) (door_met os _)) ?_
  intro W base args ds gs before hval0 hW _ _ hL _
  have hval : ∀ (j : Nat) t v, Tryz.f7.params[j]? = some t → args[j]? = some v → Value.okWide Tryz.prog W .any base t v := hval0
  have hW' := hW
  obtain ⟨p, q, hA0, hV, rfl, _, _⟩ := hW
  have hA : DataW.TrodAll enc Tryz.prog W 0 (fun _ => true) true Tryz.f7.params.toList args.toList ds p := hA0
  rw [Tryz.params7] at hA hval
  obtain ⟨v0, v1, v2, d0, d1, d2, p0, p1, p2, rfl, rfl, rfl, h0, h1, h2⟩ := trodAll_three hA
  obtain ⟨rfl, rfl⟩ := trodVars_none hV
  clear hA0 hval0
  simp only [List.append_nil] at hW'
  have hlt : ∀ x ∈ p0 ++ p1 ++ p2, x.block < W.heap.size := fun x hx => by simpa using hW'.lt x hx
  have k0 : ∀ x ∈ p0, x.block < W.heap.size := fun x hx => hlt x (List.mem_append.2 (.inl (List.mem_append.2 (.inl hx))))
  have harg0 : ∀ W', Below W.heap.size W W' → DataW.Trod enc Tryz.prog W' 0 (fun b => decide (b < W.heap.size)) true 24 v0 d0 p0 := fun W' hb => Below.trod archiveRestores_laidOut (by kernel_rfl) (of_decide_eq_true (by kernel_rfl)) h0 hb k0
  obtain ⟨x0, ⟨y0, e0, r0⟩, f0⟩ := open_arg (P := Tryz.prog) (E := te) (n := 12) (t := (.st 1)) (by kernel_rfl) (hval 0 24 v0 rfl rfl) h0
  have k1 : ∀ x ∈ p1, x.block < W.heap.size := fun x hx => hlt x (List.mem_append.2 (.inl (List.mem_append.2 (.inr hx))))
  have harg1 : ∀ W', Below W.heap.size W W' → DataW.Trod enc Tryz.prog W' 0 (fun b => decide (b < W.heap.size)) true 36 v1 d1 p1 := fun W' hb => Below.trod archiveRestores_laidOut (by kernel_rfl) (of_decide_eq_true (by kernel_rfl)) h1 hb k1
  obtain ⟨x1, ⟨y1, e1, r1⟩, f1⟩ := open_arg (P := Tryz.prog) (E := te) (n := 12) (t := (.st 8)) (by kernel_rfl) (hval 1 36 v1 rfl rfl) h1
  have k2 : ∀ x ∈ p2, x.block < W.heap.size := fun x hx => hlt x (List.mem_append.2 (.inr hx))
  have harg2 : ∀ W', Below W.heap.size W W' → DataW.Trod enc Tryz.prog W' 0 (fun b => decide (b < W.heap.size)) true 36 v2 d2 p2 := fun W' hb => Below.trod archiveRestores_laidOut (by kernel_rfl) (of_decide_eq_true (by kernel_rfl)) h2 hb k2
  obtain ⟨x2, ⟨y2, e2, r2⟩, f2⟩ := open_arg (P := Tryz.prog) (E := te) (n := 12) (t := (.st 8)) (by kernel_rfl) (hval 2 36 v2 rfl rfl) h2
  have hcall := law_of_con (E := te) (ps := [.d (.st 1), .d (.st 8), .d (.st 8)]) (ali := false) (F := fun a => law16_ArchiveRestores a.1 a.2.1 a.2.2.1) ok_7.1 rfl (a := (x0, x1, x2, ())) (y := true) (archiveRestores_plain x0 x1 x2 f0 f1 f2) rfl (svs := [y0, y1, y2]) (by simp only [argsV, e0, e1, e2]) (.cons (r0 _) (.cons (r1 _) (.cons (r2 _) .nil))) (seat_glob hL)
  refine Calls.mono hcall fun e W' ⟨v, he, hv, hb⟩ => ?_
  subst he; subst hv
  refine ⟨_, rfl, _, _, _, [], _, [], hW', ?_, trodAll_mk3 (harg0 W' hb) (harg1 W' hb) (harg2 W' hb), rfl, hb.frame _, fun h => by cases h⟩
  exact trodAll_mk1 (shut_bool (t := 4) (by kernel_rfl) true)
theorem archiveRestores_row_holds : Rows.ArchiveRestoresSaid :=
  OpenClaim.holds_of_wide 7 Tryz.f7 rfl rfl rfl rfl rfl rfl rfl ⟨rfl, rfl, rfl, rfl, rfl⟩ rfl rfl rfl rfl rfl (by kernel_rfl) Tryz.func7 (by kernel_rfl)
    (of_decide_eq_true (by kernel_rfl)) (by unfold Func.isWrapper; first | (rw [if_pos (by decide +kernel)]; kernel_rfl) | (rw [if_neg (by decide +kernel)]; exact ⟨rfl, rfl⟩))
    (fun os started H enc _ => archiveRestores_lifted os started H enc)
theorem archiveRestores_holds : Rows.ArchiveRestoresCardSaid :=
  Claim7.holds_tied_plain_at .later [] [.data] true (true, "1c8d540d2b5554273c73613ef1a6eb69999031db6e62c6fad4ffde1840f6c766") false
    archiveRestores_row_holds (fun _ h => by cases h) (by kernel_rfl) (fun _ h => by cases h) archiveRestores_row_tie rfl ⟨rfl, rfl⟩ (by kernel_rfl) rfl
    (fun f fn hf hfn => by
      obtain rfl : f = 7 := Option.some.inj ((show Tryz.prog.funcNamed "filespace/filespacelaw16.ArchiveRestores" = some 7 by kernel_rfl).symm.trans hf) |>.symm
      obtain rfl : fn = Tryz.f7 := (Option.some.inj (Tryz.func7.symm.trans hfn)).symm
      exact ⟨by kernel_rfl, fun j t ht => by
        rw [Tryz.params7] at ht
        have hm : t ∈ [24, 36] := by simpa using Array.mem_of_getElem? ht
        have hall : ([24, 36].all fun u => !Tryz.prog.wantsStandIn u) = true := by kernel_rfl
        exact (show Tryz.prog.wantsStandIn t = false by simpa using List.all_eq_true.1 hall t hm)⟩)
    (by kernel_rfl)
end Go.Proofs.YtfdmakpcmkbhhaaGreatDoor
