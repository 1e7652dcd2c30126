/-
  The statement 'ArchiveGetsSaid': for every input the law returns true, and the input reads as it did. No condition beyond the statement's own.
-/
import Derived.Test.YtfdmakpcmkbhhaaGreatDoorRows
import Derived.Test.YtfdmakpcmkbhhaaGreatDoorCards
import Derived.Test.YtfdmakpcmkbhhaaGreatDoorTie
import Derived.Test.YtfdmakpcmkbhhaaGreatDoorYE7
import Derived.ProofKit
import Derived.SevenTiedAt
namespace Go.Proofs.YtfdmakpcmkbhhaaGreatDoor
open Go.ChangeShapes Go.WideShapes Go.ChangeAt Go.RowKit Go.Rt Go.ChangeMaps
theorem archiveGets_own : ownKnob Tryz.prog.godebug = none := by kernel_rfl
theorem archiveGets_laidOut : laidOutB Tryz.prog = true := by kernel_rfl
set_option maxRecDepth 100000 in
theorem archiveGets_lifted (os : Os) (started : os.Started) (H : Type) (enc : TypeId × Value → H) :
    ReturnsInHanded {} Tryz.checked os 5 .any (fun w args => (Rows.archiveGetsSpec.pre enc Tryz.prog Tryz.f5 [] false w args ∧ laidMetH Tryz.prog [("filespace/hash.rounds", Rows.laid_filespace_hash_rounds)] w) ∧ sizedMet enc Tryz.prog Tryz.f5 (OpenSpec.ofChange Rows.archiveGetsSpec) false w args)
      (Rows.archiveGetsSpec.post enc Tryz.prog Tryz.f5 false true false false) := by
  refine returnsInHanded_of_change_and (C := Tryz.checked) (X := fun w _ => laidMetH Tryz.prog [("filespace/hash.rounds", Rows.laid_filespace_hash_rounds)] w) (fun _ _ _ hh h => h.of_heap hh) archiveGets_own started (by kernel_rfl) Tryz.func5
    (ChangeSpec.witness_shaped (enc := enc) (C := Tryz.checked) (os := os) (X := fun w _ => laidMetH Tryz.prog [("filespace/hash.rounds", Rows.laid_filespace_hash_rounds)] w) false (World.doorLaid Tryz.prog 14 os) #[.agg #[.int .i64 0, .slice none 0 0], .string ⟨#[]⟩] 8 rfl (World.shaped_of_RefB (by kernel_rfl) (by kernel_rfl)) (by kernel_rfl) (by kernel_rfl) (by kernel_rfl) (door_met os _)) ?_
  intro W base args ds gs before hval0 hW _ _ hL _
  have hval : ∀ (j : Nat) t v, Tryz.f5.params[j]? = some t → args[j]? = some v → Value.okWide Tryz.prog W .any base t v := hval0
  have hW' := hW
  obtain ⟨p, q, hA0, hV, rfl, _, _⟩ := hW
  have hA : DataW.TrodAll enc Tryz.prog W 0 (fun _ => true) true Tryz.f5.params.toList args.toList ds p := hA0
  rw [Tryz.params5] at hA hval
  obtain ⟨v0, v1, d0, d1, p0, p1, rfl, rfl, rfl, h0, h1⟩ := trodAll_two hA
  obtain ⟨rfl, rfl⟩ := trodVars_none hV
  clear hA0 hval0
  simp only [List.append_nil] at hW'
  have hlt : ∀ x ∈ p0 ++ p1, x.block < W.heap.size := fun x hx => by simpa using hW'.lt x hx
  have k0 : ∀ x ∈ p0, x.block < W.heap.size := fun x hx => hlt x (List.mem_append.2 (.inl hx))
  have harg0 : ∀ W', Below W.heap.size W W' → DataW.Trod enc Tryz.prog W' 0 (fun b => decide (b < W.heap.size)) true 24 v0 d0 p0 := fun W' hb => Below.trod archiveGets_laidOut (by kernel_rfl) (of_decide_eq_true (by kernel_rfl)) h0 hb k0
  obtain ⟨x0, ⟨y0, e0, r0⟩, f0⟩ := open_arg (P := Tryz.prog) (E := te) (n := 12) (t := (.st 1)) (by kernel_rfl) (hval 0 24 v0 rfl rfl) h0
  have k1 : ∀ x ∈ p1, x.block < W.heap.size := fun x hx => hlt x (List.mem_append.2 (.inr hx))
  have harg1 : ∀ W', Below W.heap.size W W' → DataW.Trod enc Tryz.prog W' 0 (fun b => decide (b < W.heap.size)) true 9 v1 d1 p1 := fun W' hb => Below.trod archiveGets_laidOut (by kernel_rfl) (of_decide_eq_true (by kernel_rfl)) h1 hb k1
  obtain ⟨x1, ⟨y1, e1, r1⟩, f1⟩ := open_arg (P := Tryz.prog) (E := te) (n := 12) (t := .str) (by kernel_rfl) (hval 1 9 v1 rfl rfl) h1
  have hcall := law_of_con (E := te) (ps := [.d (.st 1), .d .str]) (ali := false) (F := fun a => law16_ArchiveGets a.1 a.2.1) ok_5.1 rfl (a := (x0, x1, ())) (y := true) (archiveGets_plain x0 x1 f0 f1) rfl (svs := [y0, y1]) (by simp only [argsV, e0, e1]) (.cons (r0 _) (.cons (r1 _) .nil)) (seat_glob hL)
  refine Calls.mono hcall fun e W' ⟨v, he, hv, hb⟩ => ?_
  subst he; subst hv
  refine ⟨_, rfl, _, _, _, [], _, [], hW', ?_, trodAll_mk2 (harg0 W' hb) (harg1 W' hb), rfl, hb.frame _, fun h => by cases h⟩
  exact trodAll_mk1 (shut_bool (t := 4) (by kernel_rfl) true)
theorem archiveGets_row_holds : Rows.ArchiveGetsSaid :=
  OpenClaim.holds_of_wide 5 Tryz.f5 rfl rfl rfl rfl rfl rfl rfl ⟨rfl, rfl, rfl, rfl, rfl⟩ rfl rfl rfl rfl rfl (by kernel_rfl) Tryz.func5 (by kernel_rfl)
    (of_decide_eq_true (by kernel_rfl)) (by unfold Func.isWrapper; first | (rw [if_pos (by decide +kernel)]; kernel_rfl) | (rw [if_neg (by decide +kernel)]; exact ⟨rfl, rfl⟩))
    (fun os started H enc _ => archiveGets_lifted os started H enc)
theorem archiveGets_holds : Rows.ArchiveGetsCardSaid :=
  Claim7.holds_tied_plain_at .later [] [.data] true (true, "1c8d540d2b5554273c73613ef1a6eb69999031db6e62c6fad4ffde1840f6c766") false
    archiveGets_row_holds (fun _ h => by cases h) (by kernel_rfl) (fun _ h => by cases h) archiveGets_row_tie rfl ⟨rfl, rfl⟩ (by kernel_rfl) rfl
    (fun f fn hf hfn => by
      obtain rfl : f = 5 := Option.some.inj ((show Tryz.prog.funcNamed "filespace/filespacelaw16.ArchiveGets" = some 5 by kernel_rfl).symm.trans hf) |>.symm
      obtain rfl : fn = Tryz.f5 := (Option.some.inj (Tryz.func5.symm.trans hfn)).symm
      exact ⟨by kernel_rfl, fun j t ht => by
        rw [Tryz.params5] at ht
        have hm : t ∈ [24, 9] := by simpa using Array.mem_of_getElem? ht
        have hall : ([24, 9].all fun u => !Tryz.prog.wantsStandIn u) = true := by kernel_rfl
        exact (show Tryz.prog.wantsStandIn t = false by simpa using List.all_eq_true.1 hall t hm)⟩)
    (by kernel_rfl)
end Go.Proofs.YtfdmakpcmkbhhaaGreatDoor
