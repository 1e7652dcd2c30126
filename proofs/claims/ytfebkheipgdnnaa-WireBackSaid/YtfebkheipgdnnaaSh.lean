/-
  The second engine: what a function hands back. No program in sight.
-/
import Derived.Test.YtfebkheipgdnnaaSg
namespace Go
namespace Rt
open Go.RowKit

section
variable {P : Program} {E : TE} {z z' : Fz} {g g' : Ga} {w w0 : World} {Bs : List Nat} {F0 : Nat → Prop} {N : Nat} {H : Nat → Option (Obj E)}
theorem frzR_ok (h : HR P E Bs F0 w0 w z g H) : ∀ (rs : Rs) (xs : List (V1 E)), ∃ z', z.Le z' ∧ HR P E Bs F0 w0 w z' g (upH H (frzR E H rs xs))
  | [], _ => ⟨z, Fz.Le.refl z, h⟩
  | (_, _) :: _, [] => ⟨z, Fz.Le.refl z, h⟩
  | (t, m) :: rs, x :: xs => by
    obtain ⟨z1, h1, h2⟩ := frzR_ok h rs xs
    obtain ⟨z2, h3, h4⟩ := frzL_ok h2 (unM m x.cs)
    rw [upH_append] at h4
    exact ⟨z2, h1.trans h3, h4⟩
theorem frzV_ok : ∀ (ps : List Pm) (n : Nat) {z : Fz} {H : Nat → Option (Obj E)}, HR P E Bs F0 w0 w z g H → ∃ z', z.Le z' ∧ HR P E Bs F0 w0 w z' g (upH H (frzV E H ps n))
  | [], _, z, _, h => ⟨z, Fz.Le.refl z, h⟩
  | .b _ _ :: ps, n, z, H, h => by
    obtain ⟨z1, h1, h2⟩ := frzV_ok ps (n + 1) h
    unfold frzV
    split
    · obtain ⟨z2, h3, h4⟩ := frzL_ok h2 ‹List (SC E)›
      rw [upH_append] at h4
      exact ⟨z2, h1.trans h3, h4⟩
    · exact ⟨z1, h1, h2⟩
  | .l t m :: ps, n, z, _, h => frzV_ok ps _ h
  | .d _ :: ps, n, z, _, h => frzV_ok ps n h
  | .p _ :: ps, n, z, _, h => frzV_ok ps n h
  | .f1 _ _ :: ps, n, z, _, h => frzV_ok ps n h
  | .f2 _ _ _ :: ps, n, z, _, h => frzV_ok ps n h
theorem frzA_ok (h : HR P E Bs F0 w0 w z g H) (ps : List Pm) (rs : Rs) (xs : List (V1 E)) : ∃ z', z.Le z' ∧ HR P E Bs F0 w0 w z' g (upH H (frzA E H ps rs xs)) := by
  obtain ⟨z1, h1, h2⟩ := frzR_ok h rs xs
  obtain ⟨z2, h3, h4⟩ := frzV_ok ps 0 h2
  rw [upH_append] at h4
  exact ⟨z2, h1.trans h3, h4⟩
theorem resSV_ok {b : Ba E} {s : St E} {a : Act} {v : ResultVar} {x : V1 E} (hE : ER P E z g N a (s.L b)) (hH : HR P E Bs F0 w0 w z g (s.H b)) (h : resSV E P b s v = some x) : ∃ u, (resSem a.tmps v).run P w = .ok u w ∧ R1 P E z g x u := by
  cases v with
  | tmp t =>
    unfold resSV at h
    simp only at h
    split at h
    · rename_i y hL
      obtain rfl := Option.some.inj h
      obtain ⟨u, h1, h2⟩ := hE.get t _ hL
      refine ⟨u, ?_, h2⟩
      have : a.tmps.getD t undef = u := by rw [Array.getD_eq_getD_getElem?, h1]; rfl
      simp only [resSem, this, Sem.run_pure]
    · cases h
  | cell t T =>
    unfold resSV at h
    simp only at h
    split at h
    · rename_i c hL
      split at h
      · rename_i l off hb
        obtain ⟨u, h1, h2⟩ := hE.get t _ hL
        obtain ⟨bb, base, vs, rfl, hl, hc⟩ := behind_ok hH hb h2
        obtain ⟨v, hlv, hrv⟩ := loadC_ok h hl
        refine ⟨v, ?_, hrv⟩
        have : a.tmps.getD t undef = .pointer (some ⟨bb, base + off, none⟩) := by rw [Array.getD_eq_getD_getElem?, h1]; rfl
        have has : (asAddr (.pointer (some ⟨bb, base + off, none⟩))).run P w = .ok ⟨bb, base + off, none⟩ w := rfl
        have hload := run_loadVal (P := P) hlv (hc w (Stands.refl hH))
        simp only [resSem, this, Sem.run_bind, has, Result.andThen_ok, hload]
      · cases h
    · cases h
theorem resXs_ok {b : Ba E} {s : St E} {a : Act} (hE : ER P E z g N a (s.L b)) (hH : HR P E Bs F0 w0 w z g (s.H b)) : ∀ {vs : List ResultVar} {xs : List (V1 E)}, resXs E P b s vs = some xs → ∃ us, (vs.mapM (resSem a.tmps)).run P w = .ok us w ∧ All2 (R1 P E z g) xs us
  | [], xs, h => by obtain rfl := Option.some.inj h; exact ⟨[], rfl, .nil⟩
  | v :: vs, xs, h => by
    simp only [resXs] at h
    split at h
    · rename_i x l hx hl
      obtain rfl := Option.some.inj h
      obtain ⟨u, h1, h2⟩ := resSV_ok hE hH hx
      obtain ⟨us, h3, h4⟩ := resXs_ok hE hH hl
      refine ⟨u :: us, ?_, .cons h2 h4⟩
      rw [List.mapM_cons, Sem.run_bind, h1]
      simp only [Sem.run_pure, Result.andThen_ok, Sem.run_bind, h3]
    · cases h
theorem tuple_out {fn : Func} {a : Act} {rs : List ResultVar} {us : List Value} (hfn : fn.results.toList = rs) (h : (rs.mapM (resSem a.tmps)).run P w = .ok us w) : (results fn a.tmps).run P w = .ok (tupleOf us) w := by
  have hfn' : fn.results = rs.toArray := by rw [← hfn, Array.toArray_toList]
  rw [results_eq, hfn', List.mapM_toArray, Sem.run_bind]
  have : ((Functor.map List.toArray (rs.mapM (resSem a.tmps))).run P w) = .ok us.toArray w := by
    rw [map_eq_pure_bind, Sem.run_bind, h]; rfl
  rw [this]
  simp only [Result.andThen_ok, Sem.run_pure]
  congr 1
  match us with
  | [] => rfl
  | [v] => rfl
  | v :: u :: r => simp [tupleOf]
theorem takeR_ok (hH : HR P E Bs F0 w0 w z g H) {I : List Nat} : ∀ {rs : Rs} {xs : List (V1 E)} {q : HL E.S rs.ts × List Nat} {us : List Value} {n : Nat}, takeR E H rs xs = some q → (∀ j id, q.2[j]? = some id → I[n + j]? = some id) → All2 (R1 P E z g) xs us →
    (∃ svr, resV E rs q.1 n = some svr ∧ All2 (R1 P E z (gOf g I)) svr us) ∧ (∀ i o, (i, o) ∈ resO E rs q.1 n → ∃ id o1 o2, I[i]? = some id ∧ H id = some o1 ∧ o = some o2 ∧ Cor E H o1 o2) ∧ q.2.length = cntR E rs
  | [], [], q, us, n, h, _, hv => by
    cases hv
    obtain rfl := Option.some.inj h
    exact ⟨⟨[], rfl, .nil⟩, (fun i o hm => nomatch hm), rfl⟩
  | [], _ :: _, q, us, n, h, _, _ => by simp [takeR] at h
  | (t, m) :: rs, [], q, us, n, h, _, _ => by simp [takeR] at h
  | (t, m) :: rs, x :: xs, q, us, n, h, hI, hv => by
    simp only [takeR] at h
    split at h
    · rename_i d q' hf hd hq
      obtain rfl := Option.some.inj h
      obtain ⟨hI1, hI2⟩ := mem_off hI
      cases hv with
      | @cons _ u _ us' hx hr =>
        obtain ⟨e7, e8⟩ := ownO_cor (I := I) (n := n) hd hI1
        obtain ⟨⟨svr, e1, e2⟩, e3, e4⟩ := takeR_ok hH (n := n + d.2.length) hq hI2 hr
        rw [e8] at e1 e3
        have hcs : ∀ vs, All2 (RC P E z g) x.cs vs → _ := fun vs hvs => takeM_val hH hd hI1 hvs
        obtain ⟨y, e5, e6⟩ := asV_ok (z' := z) (g' := gOf g I) (l := ownC E m (E.flat t) d.1 n) hf (by
          have : ∃ vs, All2 (RC P E z g) x.cs vs := by
            cases x with
            | one c => exact ⟨[u], .cons hx .nil⟩
            | agg l => obtain ⟨vs, _, h⟩ := hx; exact ⟨vs, h⟩
          obtain ⟨vs, hvs⟩ := this
          rw [(hcs vs hvs).2.1, (hcs vs hvs).2.2]) hx fun vs hvs => (hcs vs hvs).1
        refine ⟨⟨y :: svr, by simp only [resV, e1, E.fl_ufl, e5], .cons e6 e2⟩, fun i o ho => ?_, by simp only [List.length_append, e8, e4]; rfl⟩
        simp only [resO, List.mem_append, E.fl_ufl] at ho
        rcases ho with ho | ho
        · exact e7 i o ho
        · exact e3 i o ho
    · cases h
/-- The memory that goes over to the caller. -/
theorem HR.leave (hH : HR P E Bs F0 w0 w z g H) {I : List Nat} (hn : nodupB I = true) {l : Chs E} (hl : ∀ i o, (i, o) ∈ l → ∃ id o1 o2, I[i]? = some id ∧ H id = some o1 ∧ o = some o2 ∧ Cor E H o1 o2) :
    HR P E Bs F0 w0 w z (gOf g I) (upH (fun _ => none) l) := by
  have key : ∀ i o, upH (fun _ => none) l i = some o → ∃ id o1, I[i]? = some id ∧ H id = some o1 ∧ ObjR P E z (gOf g I) w i o ∧ ∀ k, fpO (gOf g I) i o k ↔ fpO g id o1 k := fun i o h => by
    obtain ⟨id, o1, o2, h1, h2, h3, h4⟩ := hl i _ (upH_mem h)
    obtain rfl := Option.some.inj h3
    obtain ⟨h5, h6⟩ := h4.obj hH h1 (hH.hold _ _ h2)
    exact ⟨id, o1, h1, h2, h5, h6⟩
  refine ⟨hH.chg, fun i o h => ?_, fun i o k h hk => ?_, fun i j o p k hij h h' hk hk' => ?_, hH.fz, hH.fz0, fun i o k h hk hz => ?_⟩
  · obtain ⟨_, _, _, _, h5, _⟩ := key i o h; exact h5
  · obtain ⟨id, o1, _, h2, _, h6⟩ := key i o h
    exact hH.own id o1 k h2 ((h6 k).1 hk)
  · obtain ⟨id, o1, h1, h2, _, h6⟩ := key i o h
    obtain ⟨id', o1', h1', h2', _, h6'⟩ := key j p h'
    refine hH.apart id id' o1 o1' k (fun e => ?_) h2 h2' ((h6 k).1 hk) ((h6' k).1 hk')
    subst e
    exact hij (nodup_get hn h1 h1')
  · obtain ⟨id, o1, h1, h2, _, h6⟩ := key i o h
    exact hH.fza id o1 k h2 ((h6 k).1 hk) hz
end
end Rt
end Go
