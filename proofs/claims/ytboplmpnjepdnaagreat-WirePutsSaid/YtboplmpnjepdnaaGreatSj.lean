/-
  The second engine: functions as a whole. No program in sight.
-/
import Derived.Test.YtboplmpnjepdnaaGreatSi
namespace Go
namespace Rt
open Go.RowKit

section
variable {P : Program} {E : TE} {eqs : List (Nat × Nat)} {tab : Tab E} {z : Fz} {g : Ga} {w w0 : World} {Bs : List Nat} {N : Nat}
/-- What is to be said of a function's end. -/
def EndIs (P : Program) (E : TE) (z : Fz) (g : Ga) (Bs : List Nat) (w : World) (ps : List Pm) (rs : Rs) (a : PA E ps) (rh : HL E.S rs.ts) (bh : HL E.S (backs ps)) (v : Value) (w' : World) : Prop :=
  ∃ z' g' svr, z.Le z' ∧ g.Le g' ∧ resV E rs rh (cntA E ps) = some svr ∧ RV P E z' g' (oneV E svr) v ∧ HR P E Bs z.F w w' z' g' (upH (fun _ => none) (resO E rs rh (cntA E ps) ++ argsO E ps (putB E ps a bh) 0))
theorem oneV_ok {svr : List (V1 E)} {us : List Value} (h : All2 (R1 P E z g) svr us) : RV P E z g (oneV E svr) (tupleOf us) := by
  cases h with
  | nil => exact ⟨[], rfl, .nil⟩
  | cons h1 h2 =>
    cases h2 with
    | nil => exact h1
    | cons h3 h4 => exact ⟨_, rfl, .cons h1 (.cons h3 h4)⟩
theorem retF_ok {ps : List Pm} {rs : Rs} {a : PA E ps} {fn : Func} {b : Ba E} {s : St E} {act : Act} {w' : World} {y : Tp E.S (rs.ts ++ backs ps)} (hfr : Fresh g (cntA E ps))
    (hR : Rel P E Bs ⟨z, g, cntA E ps⟩ w N (s.L b) (s.H b) s.nx act w') (h : retF E P ps rs a fn.results.toList b s = some y) :
    act.defers = [] ∧ ∃ v, (results fn act.tmps).run P w' = .ok v w' ∧ EndIs P E z g Bs w ps rs a (hfst rs.ts (backs ps) (ofTp _ y)) (hsnd rs.ts (backs ps) (ofTp _ y)) v w' := by
  obtain ⟨z1, g1, hE, hH, _, hz1, hg1⟩ := hR
  refine ⟨hE.defers, ?_⟩
  unfold retF at h
  cases hxs : resXs E P b s fn.results.toList with
  | none => rw [hxs] at h; cases h
  | some xs =>
    rw [hxs] at h
    simp only at h
    cases hq : takeR E (upH (s.H b) (frzA E (s.H b) ps rs xs)) rs xs with
    | none => rw [hq] at h; cases h
    | some q =>
      rw [hq] at h
      obtain ⟨hn, h⟩ := onlyIf_some h
      cases hb : backH E (upH (s.H b) (frzA E (s.H b) ps rs xs)) ps a 0 with
      | none => rw [hb] at h; cases h
      | some bh =>
        rw [hb] at h
        obtain rfl := Option.some.inj h
        rw [ofTp_toTp, hfst_hap, hsnd_hap]
        obtain ⟨us, h1, h2⟩ := resXs_ok hE hH hxs
        obtain ⟨z2, hz2, hH2⟩ := frzA_ok hH ps rs xs
        have hI1 : ∀ j id, q.2[j]? = some id → (List.range (cntA E ps) ++ q.2)[cntA E ps + j]? = some id := fun j id hj => by
          rw [List.getElem?_append_right (by simp)]
          simpa using hj
        have hI2 : ∀ i, i < cntA E ps → (List.range (cntA E ps) ++ q.2)[i]? = some i := fun i hi => by
          rw [List.getElem?_append_left (by simpa using hi)]
          simp [hi]
        obtain ⟨⟨svr, h3, h4⟩, h5, _⟩ := takeR_ok hH2 (n := cntA E ps) hq hI1 (h2.mono fun _ _ h => R1.le h hz2 (Ga.Le.refl g1))
        refine ⟨_, tuple_out rfl h1, z2, gOf g1 (List.range (cntA E ps) ++ q.2), svr, hz1.trans hz2, fun i l hl => ?_, h3, oneV_ok h4, hH2.leave hn fun i o hm => ?_⟩
        · have hi : i < cntA E ps := by
            rcases Nat.lt_or_ge i (cntA E ps) with h9 | h9
            · exact h9
            · rw [hfr i h9] at hl; cases hl
          unfold gOf
          rw [hI2 i hi]
          exact hg1 i l hl
        · rcases List.mem_append.1 hm with hm | hm
          · exact h5 i o hm
          · obtain ⟨o1, o2, h6, h7, h8⟩ := backH_ok hb i o hm
            obtain ⟨_, _, _, _, h9⟩ := argsO_plain i o hm
            exact ⟨i, o1, o2, hI2 i (by omega), h6, h7, h8⟩
theorem slots_in {svs : List (V1 E)} {vs : List Value} (h : All2 (R1 P E z g) svs vs) : ∀ (i t : Nat) (o : Option (SV E)), aget t (slotsOf i svs) = some o → ∃ x v, o = some (.v x) ∧ look t (argEnv i vs) = some v ∧ R1 P E z g x v := by
  induction h with
  | nil => intro i t o ho; cases ho
  | @cons x v la bs h1 _ ih =>
    intro i t o ho
    simp only [slotsOf, aget] at ho
    simp only [argEnv, look]
    cases hb : Nat.beq t i with
    | true =>
      rw [hb] at ho
      exact ⟨x, v, (Option.some.inj ho).symm, rfl, h1⟩
    | false =>
      rw [hb] at ho
      exact ih (i + 1) t o ho
theorem evFun_ok (heq : ∀ p ∈ eqs, EqFact P E p.1 p.2) (ht : tab.OK P E) {f : FuncId} {fn : Func} (hf : P.funcs[f]? = some fn) {ps : List Pm} {rs : Rs} {pl : Pl} {a : PA E ps} {y : Tp E.S (rs.ts ++ backs ps)} (h : evFun P E eqs tab fn ps rs pl a = some y) :
    CallOK P E f ps rs true a (hfst rs.ts (backs ps) (ofTp _ y)) (hsnd rs.ts (backs ps) (ofTp _ y)) := by
  intro w z g Bs svs vs hav hH hfr hv
  unfold evFun at h
  cases hb : fn.body with
  | none => rw [hb] at h; cases h
  | some c =>
    rw [hb, hav] at h
    simp only at h
    obtain ⟨hle, h⟩ := onlyIf_some h
    refine Ret.mono (R := fun v w' => EndIs P E z g Bs w ps rs a (hfst rs.ts (backs ps) (ofTp _ y)) (hsnd rs.ts (backs ps) (ofTp _ y)) v w') ?_ fun v w' ⟨z', g', svr, h1, h2, h3, h4, h5⟩ => ⟨z', g', svr, h1, (fun e => nomatch e), h2, h3, h4, h5⟩
    refine enter hf hb rfl (by rw [List.size_toArray, ← hv.len]; exact hle) fun act hE => ?_
    refine evCode_ok (Bs := Bs) (F0 := ⟨z, g, cntA E ps⟩) (w0 := w) (Qr := fun y' a' w' => a'.defers = [] ∧ ∃ v, (results fn a'.tmps).run P w' = .ok v w' ∧ EndIs P E z g Bs w ps rs a (hfst rs.ts (backs ps) (ofTp _ y')) (hsnd rs.ts (backs ps) (ofTp _ y')) v w') heq ht
      (fun b s a' w' y' hR hy => retF_ok hfr hR hy) c pl _ _ _ _ _ y act w _ hfr h ?_ ?_ ?_
    · refine ⟨z, g, ⟨hE.size, hE.defers, fun t u hu => ?_⟩, hH, hfr, Fz.Le.refl z, Ga.Le.refl g⟩
      unfold St.L at hu
      simp only at hu
      cases ha : aget t (slotsOf 0 svs) with
      | none => rw [ha] at hu; cases hu
      | some o =>
        rw [ha] at hu
        obtain ⟨x, v, h1, h2, h3⟩ := slots_in hv 0 t o ha
        subst h1
        obtain rfl := Option.some.inj hu
        exact ⟨v, hE.get t v (by simpa using h2), h3⟩
    · intro ex s' a' w' he hR'
      cases ex with
      | some i => cases he
      | none =>
        obtain ⟨h1, v, h2, h3⟩ := retF_ok hfr hR' he
        exact ⟨h1, _, h2, v, rfl, h3⟩
    · intro y' a' w' he hq
      obtain rfl := Option.some.inj he
      obtain ⟨h1, v, h2, h3⟩ := hq
      exact ⟨h1, _, h2, v, rfl, h3⟩
end
end Rt
end Go
