import Derived.Test.YtboplmpnjepdnaaGreatSg
/-
  The second engine: what a function hands back. No program in sight.
-/
namespace Go
namespace Rt
open Go.RowKit

section
variable {P : Program} {E : TE} {z z' : Fz} {g g' : Ga} {w w0 : World} {Bs : List Nat} {F0 : Nat → Prop} {N : Nat} {H : Nat → Option (Obj E)}
theorem frzR_ok (h : HR P E Bs F0 w0 w z g H) : ∀ (rs : Rs) (xs : List (V1 E)), ∃ z', z.Le z' ∧ HR P E Bs F0 w0 w z' g (upH H (frzR E H rs xs))
  | [], _ => ⟨z, Fz.Le.refl z, h⟩
  | (_, _) :: _, [] => ⟨z, Fz.Le.refl z, h⟩
  | (t, m) :: rs, x :: xs => by
    obtain ⟨z1, h1, h2⟩ := frzR_ok h rs xs
    obtain ⟨z2, h3, h4⟩ := frzL_ok h2 (unM m x.cs)
    rw [upH_append] at h4
    exact ⟨z2, h1.trans h3, h4⟩
theorem frzV_ok : ∀ (ps : List Pm) (n : Nat) {z : Fz} {H : Nat → Option (Obj E)}, HR P E Bs F0 w0 w z g H → ∃ z', z.Le z' ∧ HR P E Bs F0 w0 w z' g (upH H (frzV E H ps n))
  | [], _, z, _, h => ⟨z, Fz.Le.refl z, h⟩
  | .b _ _ :: ps, n, z, H, h => by
    obtain ⟨z1, h1, h2⟩ := frzV_ok ps (n + 1) h
    unfold frzV
    split
    · obtain ⟨z2, h3, h4⟩ := frzL_ok h2 ‹List (SC E)›
      rw [upH_append] at h4
      exact ⟨z2, h1.trans h3, h4⟩
    · exact ⟨z1, h1, h2⟩
  | .l t m :: ps, n, z, _, h => frzV_ok ps _ h
  | .g t m :: ps, n, z, _, h => frzV_ok ps _ h
  | .mp _ _ _ :: ps, n, z, _, h => frzV_ok ps _ h
  | .d _ :: ps, n, z, _, h => frzV_ok ps n h
  | .p _ :: ps, n, z, _, h => frzV_ok ps n h
  | .f1 _ _ :: ps, n, z, _, h => frzV_ok ps n h
  | .f2 _ _ _ :: ps, n, z, _, h => frzV_ok ps n h
theorem frzA_ok (h : HR P E Bs F0 w0 w z g H) (ps : List Pm) (rs : Rs) (xs : List (V1 E)) : ∃ z', z.Le z' ∧ HR P E Bs F0 w0 w z' g (upH H (frzA E H ps rs xs)) := by
  obtain ⟨z1, h1, h2⟩ := frzR_ok h rs xs
  obtain ⟨z2, h3, h4⟩ := frzV_ok ps 0 h2
  rw [upH_append] at h4
  exact ⟨z2, h1.trans h3, h4⟩
theorem resSV_ok {b : Ba E} {s : St E} {a : Act} {v : ResultVar} {x : V1 E} (hE : ER P E z g N a (s.L b)) (hH : HR P E Bs F0 w0 w z g (s.H b)) (h : resSV E P b s v = some x) : ∃ u, (resSem a.tmps v).run P w = .ok u w ∧ R1 P E z g x u := by
  cases v with
  | tmp t =>
    unfold resSV at h
    simp only at h
    split at h
    · rename_i y hL
      obtain rfl := Option.some.inj h
      obtain ⟨u, h1, h2⟩ := hE.get t _ hL
      refine ⟨u, ?_, h2⟩
      have : a.tmps.getD t undef = u := by rw [Array.getD_eq_getD_getElem?, h1]; rfl
      simp only [resSem, this, Sem.run_pure]
    · cases h
  | cell t T =>
    unfold resSV at h
    simp only at h
    split at h
    · rename_i c hL
      split at h
      · rename_i l off hb
        obtain ⟨u, h1, h2⟩ := hE.get t _ hL
        obtain ⟨bb, base, vs, rfl, hl, hc⟩ := behind_ok hH hb h2
        obtain ⟨v, hlv, hrv⟩ := loadC_ok h hl
        refine ⟨v, ?_, hrv⟩
        have : a.tmps.getD t undef = .pointer (some ⟨bb, base + off, none⟩) := by rw [Array.getD_eq_getD_getElem?, h1]; rfl
        have has : (asAddr (.pointer (some ⟨bb, base + off, none⟩))).run P w = .ok ⟨bb, base + off, none⟩ w := rfl
        have hload := run_loadVal (P := P) hlv (hc w (Stands.refl hH))
        simp only [resSem, this, Sem.run_bind, has, Result.andThen_ok, hload]
      · cases h
    · cases h
theorem resXs_ok {b : Ba E} {s : St E} {a : Act} (hE : ER P E z g N a (s.L b)) (hH : HR P E Bs F0 w0 w z g (s.H b)) : ∀ {vs : List ResultVar} {xs : List (V1 E)}, resXs E P b s vs = some xs → ∃ us, (vs.mapM (resSem a.tmps)).run P w = .ok us w ∧ All2 (R1 P E z g) xs us
  | [], xs, h => by obtain rfl := Option.some.inj h; exact ⟨[], rfl, .nil⟩
  | v :: vs, xs, h => by
    simp only [resXs] at h
    split at h
    · rename_i x l hx hl
      obtain rfl := Option.some.inj h
      obtain ⟨u, h1, h2⟩ := resSV_ok hE hH hx
      obtain ⟨us, h3, h4⟩ := resXs_ok hE hH hl
      refine ⟨u :: us, ?_, .cons h2 h4⟩
      rw [List.mapM_cons, Sem.run_bind, h1]
      simp only [Sem.run_pure, Result.andThen_ok, Sem.run_bind, h3]
    · cases h
theorem tuple_out {fn : Func} {a : Act} {rs : List ResultVar} {us : List Value} (hfn : fn.results.toList = rs) (h : (rs.mapM (resSem a.tmps)).run P w = .ok us w) : (results fn a.tmps).run P w = .ok (tupleOf us) w := by
  have hfn' : fn.results = rs.toArray := by rw [← hfn, Array.toArray_toList]
  rw [results_eq, hfn', List.mapM_toArray, Sem.run_bind]
  have : ((Functor.map List.toArray (rs.mapM (resSem a.tmps))).run P w) = .ok us.toArray w := by
    rw [map_eq_pure_bind, Sem.run_bind, h]; rfl
  rw [this]
  simp only [Result.andThen_ok, Sem.run_pure]
  congr 1
  match us with
  | [] => rfl
  | [v] => rfl
  | v :: u :: r => simp [tupleOf]
theorem takeR_ok (hH : HR P E Bs F0 w0 w z g H) {I : List Nat} : ∀ {rs : Rs} {xs : List (V1 E)} {q : HL E.S rs.ts × List Nat} {us : List Value} {n : Nat}, takeR E H rs xs = some q → (∀ j id, q.2[j]? = some id → I[n + j]? = some id) → All2 (R1 P E z g) xs us →
    (∃ svr, resV E rs q.1 n = some svr ∧ All2 (R1 P E z (gOf g I)) svr us) ∧ (∀ i o, (i, o) ∈ resO E rs q.1 n → ∃ id o1 o2, I[i]? = some id ∧ H id = some o1 ∧ o = some o2 ∧ Cor E H o1 o2) ∧ q.2.length = cntR E rs
  | [], [], q, us, n, h, _, hv => by
    cases hv
    obtain rfl := Option.some.inj h
    exact ⟨⟨[], rfl, .nil⟩, (fun i o hm => nomatch hm), rfl⟩
  | [], _ :: _, q, us, n, h, _, _ => by simp [takeR] at h
  | (t, m) :: rs, [], q, us, n, h, _, _ => by simp [takeR] at h
  | (t, m) :: rs, x :: xs, q, us, n, h, hI, hv => by
    simp only [takeR] at h
    split at h
    · rename_i d q' hf hd hq
      obtain rfl := Option.some.inj h
      obtain ⟨hI1, hI2⟩ := mem_off hI
      cases hv with
      | @cons _ u _ us' hx hr =>
        obtain ⟨e7, e8⟩ := ownO_cor (I := I) (n := n) hd hI1
        obtain ⟨⟨svr, e1, e2⟩, e3, e4⟩ := takeR_ok hH (n := n + d.2.length) hq hI2 hr
        rw [e8] at e1 e3
        have hcs : ∀ vs, All2 (RC P E z g) x.cs vs → _ := fun vs hvs => takeM_val hH hd hI1 hvs
        obtain ⟨y, e5, e6⟩ := asV_ok (z' := z) (g' := gOf g I) (l := ownC E m (E.flat t) d.1 n) hf (by
          have : ∃ vs, All2 (RC P E z g) x.cs vs := by
            cases x with
            | one c => exact ⟨[u], .cons hx .nil⟩
            | agg l => obtain ⟨vs, _, h⟩ := hx; exact ⟨vs, h⟩
          obtain ⟨vs, hvs⟩ := this
          rw [(hcs vs hvs).2.1, (hcs vs hvs).2.2]) hx fun vs hvs => (hcs vs hvs).1
        refine ⟨⟨y :: svr, by simp only [resV, e1, E.fl_ufl, e5], .cons e6 e2⟩, fun i o ho => ?_, by simp only [List.length_append, e8, e4]; rfl⟩
        simp only [resO, List.mem_append, E.fl_ufl] at ho
        rcases ho with ho | ho
        · exact e7 i o ho
        · exact e3 i o ho
    · cases h
/-- The memory that goes over to the caller. -/
theorem HR.leave (hH : HR P E Bs F0 w0 w z g H) {I : List Nat} {l : Chs E} (hn : ∀ i j o p id, (i, o) ∈ l → (j, p) ∈ l → I[i]? = some id → I[j]? = some id → i = j) (hl : ∀ i o, (i, o) ∈ l → ∃ id o1 o2, I[i]? = some id ∧ H id = some o1 ∧ o = some o2 ∧ Cor E H o1 o2) :
    HR P E Bs F0 w0 w z (gOf g I) (upH (fun _ => none) l) := by
  have key : ∀ i o, upH (fun _ => none) l i = some o → ∃ id o1, I[i]? = some id ∧ H id = some o1 ∧ ObjR P E z (gOf g I) w i o ∧ ∀ k, fpO (gOf g I) i o k ↔ fpO g id o1 k := fun i o h => by
    obtain ⟨id, o1, o2, h1, h2, h3, h4⟩ := hl i _ (upH_mem h)
    obtain rfl := Option.some.inj h3
    obtain ⟨h5, h6⟩ := h4.obj hH h1 (hH.hold _ _ h2)
    exact ⟨id, o1, h1, h2, h5, h6⟩
  refine ⟨hH.chg, fun i o h => ?_, fun i o k h hk => ?_, fun i j o p k hij h h' hk hk' => ?_, hH.fz, hH.fz0, fun i o k h hk hz => ?_⟩
  · obtain ⟨_, _, _, _, h5, _⟩ := key i o h; exact h5
  · obtain ⟨id, o1, _, h2, _, h6⟩ := key i o h
    exact hH.own id o1 k h2 ((h6 k).1 hk)
  · obtain ⟨id, o1, h1, h2, _, h6⟩ := key i o h
    obtain ⟨id', o1', h1', h2', _, h6'⟩ := key j p h'
    refine hH.apart id id' o1 o1' k (fun e => ?_) h2 h2' ((h6 k).1 hk) ((h6' k).1 hk')
    subst e
    exact hij (hn i j _ _ _ (upH_mem h) (upH_mem h') h1 h1')
  · obtain ⟨id, o1, h1, h2, _, h6⟩ := key i o h
    exact hH.fza id o1 k h2 ((h6 k).1 hk) hz
end
end Rt
end Go

/-
  The second engine: what comes back of parameters, and functions as a whole. No program in sight.
-/
namespace Go
namespace Rt
open Go.RowKit

section
variable {P : Program} {E : TE} {H : Nat → Option (Obj E)}
theorem backM_ok {m : Mk} : ∀ {ts : List Ty} {h h' : HL E.S ts} {n : Nat}, backM E H m ts h n = some h' → ∀ i o, (i, o) ∈ ownO E m ts h' n → ∃ o1 o2, H i = some o1 ∧ o = some o2 ∧ Cor E H o1 o2 := by
  induction m with
  | nil =>
    intro ts h h' n _ i o hm
    cases ts <;> simp [ownO] at hm
  | cons a m ih =>
    intro ts h h' n hb i o hm
    cases ts with
    | nil => cases a <;> simp [ownO] at hm
    | cons t ts =>
      cases a with
      | none =>
        simp only [backM] at hb
        cases hq : backM E H m ts h.2 n with
        | none => rw [hq] at hb; cases hb
        | some q =>
          rw [hq] at hb
          obtain rfl := Option.some.inj hb
          simp only [ownO] at hm
          exact ih hq i o hm
      | some e =>
        cases t with
        | sl t =>
          simp only [backM] at hb
          cases hn : H n with
          | none => rw [hn] at hb; cases hb
          | some p =>
            cases p with
            | row e' t' xs foc =>
              rw [hn] at hb
              simp only at hb
              split at hb
              · rename_i ht
                subst ht
                cases he : Nat.beq e e' with
                | false => rw [he] at hb; cases hb
                | true =>
                  cases hq : backM E H m ts h.2 (n + 1) with
                  | none => rw [he, hq] at hb; cases hb
                  | some q =>
                    rw [he, hq] at hb
                    obtain rfl := Option.some.inj hb
                    obtain rfl := Nat.eq_of_beq_eq_true he
                    simp only [ownO, List.mem_cons] at hm
                    rcases hm with hm | hm
                    · injection hm with e1 e2
                      subst e1; subst e2
                      exact ⟨_, _, hn, rfl, rfl⟩
                    · exact ih hq i o hm
              · cases hb
            | _ => rw [hn] at hb; cases hb
        | _ => simp [ownO] at hm
theorem backH_ok : ∀ {ps : List Pm} {a : PA E ps} {bh : HL E.S (backs ps)} {n : Nat}, backH E H ps a n = some bh → ∀ i o, (i, o) ∈ argsB E ps (putB E ps a bh) n → ∃ o1 o2, H i = some o1 ∧ o = some o2 ∧ Cor E H o1 o2 := by
  intro ps
  induction ps with
  | nil => intro a bh n _ i o hm; cases hm
  | cons p ps ih =>
    intro a bh n hb i o hm
    cases p with
    | d t => exact ih hb i o hm
    | p t => exact ih hb i o hm
    | g t m => exact ih hb i o hm
    | f1 x r => exact ih hb i o hm
    | f2 x y r => exact ih hb i o hm
    | l t m =>
      simp only [backH] at hb
      cases h1 : backM E H m (E.flat t) (E.fl t a.1) n with
      | none => rw [h1] at hb; cases hb
      | some h =>
        cases h2 : backH E H ps a.2 (n + cntO m (E.flat t)) with
        | none => rw [h1, h2] at hb; cases hb
        | some q =>
          rw [h1, h2] at hb
          obtain rfl := Option.some.inj hb
          have hm' : (i, o) ∈ ownO E m (E.flat t) (E.fl t (E.ufl t h)) n ++ argsB E ps (putB E ps a.2 q) (n + cntO m (E.flat t)) := hm
          rw [E.fl_ufl] at hm'
          rcases List.mem_append.1 hm' with hm' | hm'
          · exact backM_ok h1 i o hm'
          · exact ih h2 i o hm'
    | mp T k v =>
      simp only [backH] at hb
      cases hn : H n with
      | none => rw [hn] at hb; cases hb
      | some p =>
        cases p with
        | map T' k' v' ks vs foc =>
          cases h2 : backH E H ps a.2 (n + 1) with
          | none => rw [hn, h2] at hb; cases hb
          | some q =>
            rw [hn, h2] at hb
            simp only at hb
            split at hb
            · rename_i ht
              obtain ⟨rfl, rfl⟩ := ht
              cases hT : Nat.beq T T' with
              | false => rw [hT] at hb; cases hb
              | true =>
                rw [hT] at hb
                obtain rfl := Option.some.inj hb
                obtain rfl := Nat.eq_of_beq_eq_true hT
                have hm' : (i, o) ∈ (n, some (Obj.map T k' v' ks vs [])) :: argsB E ps (putB E ps a.2 q) (n + 1) := hm
                rcases List.mem_cons.1 hm' with hm' | hm'
                · injection hm' with e1 e2
                  subst e1; subst e2
                  exact ⟨_, _, hn, rfl, rfl⟩
                · exact ih h2 i o hm'
            · cases hb
        | _ => rw [hn] at hb; cases hb
    | b T t =>
      simp only [backH] at hb
      cases hn : H n with
      | none => rw [hn] at hb; cases hb
      | some p =>
        cases p with
        | box T' cs =>
          cases h2 : backH E H ps a.2 (n + 1) with
          | none => rw [hn, h2] at hb; cases hb
          | some q =>
            rw [hn, h2] at hb
            simp only at hb
            cases hT : Nat.beq T T' with
            | false => rw [hT] at hb; cases hb
            | true =>
              cases hd : dataL E H (E.flat t) cs with
              | none => rw [hT, hd] at hb; cases hb
              | some h =>
                rw [hT, hd] at hb
                obtain rfl := Option.some.inj hb
                obtain rfl := Nat.eq_of_beq_eq_true hT
                have hm' : (i, o) ∈ (n, some (Obj.box T (E.cells t (E.ufl t h)))) :: argsB E ps (putB E ps a.2 q) (n + 1) := hm
                rcases List.mem_cons.1 hm' with hm' | hm'
                · injection hm' with e1 e2
                  subst e1; subst e2
                  exact ⟨_, _, hn, rfl, t, h, hd, rfl⟩
                · exact ih h2 i o hm'
        | _ => rw [hn] at hb; cases hb
end
end Rt
end Go

/-
  The second engine: functions as a whole. No program in sight.
-/
namespace Go
namespace Rt
open Go.RowKit

section
variable {P : Program} {E : TE} {eqs : List (Nat × Nat)} {tab : Tab E} {z : Fz} {g : Ga} {w w0 : World} {Bs : List Nat} {N : Nat}
/-- What is to be said of a function's end. -/
def EndIs (P : Program) (E : TE) (z : Fz) (g : Ga) (Bs : List Nat) (w : World) (ps : List Pm) (rs : Rs) (a : PA E ps) (rh : HL E.S rs.ts) (bh : HL E.S (backs ps)) (v : Value) (w' : World) : Prop :=
  ∃ z' g' svr, z.Le z' ∧ g.Le g' ∧ resV E rs rh (cntA E ps) = some svr ∧ RV P E z' g' (oneV E svr) v ∧ HR P E Bs z.F w w' z' g' (upH (fun _ => none) (resO E rs rh (cntA E ps) ++ argsB E ps (putB E ps a bh) 0))
theorem oneV_ok {svr : List (V1 E)} {us : List Value} (h : All2 (R1 P E z g) svr us) : RV P E z g (oneV E svr) (tupleOf us) := by
  cases h with
  | nil => exact ⟨[], rfl, .nil⟩
  | cons h1 h2 =>
    cases h2 with
    | nil => exact h1
    | cons h3 h4 => exact ⟨_, rfl, .cons h1 (.cons h3 h4)⟩
theorem argsB_mem : ∀ {ps : List Pm} {a : PA E ps} {n i : Nat} {o : Option (Obj E)}, (i, o) ∈ argsB E ps a n → i ∈ backI E ps n
  | [], _, _, _, _, h => by cases h
  | .l t m :: ps, a, n, i, o, h => by
    rcases List.mem_append.1 h with h | h
    · obtain ⟨_, _, _, h1, h2⟩ := ownO_plain i _ h
      exact List.mem_append.2 (.inl (List.mem_range'_1.2 ⟨h1, h2⟩))
    · exact List.mem_append.2 (.inr (argsB_mem (ps := ps) h))
  | .g _ _ :: ps, _, _, _, _, h => argsB_mem (ps := ps) h
  | .b _ _ :: ps, _, _, _, _, h => by
    rcases List.mem_cons.1 h with h | h
    · injection h with e; subst e; exact List.mem_cons.2 (.inl rfl)
    · exact List.mem_cons.2 (.inr (argsB_mem (ps := ps) h))
  | .mp _ _ _ :: ps, _, _, _, _, h => by
    rcases List.mem_cons.1 h with h | h
    · injection h with e; subst e; exact List.mem_cons.2 (.inl rfl)
    · exact List.mem_cons.2 (.inr (argsB_mem (ps := ps) h))
  | .d _ :: ps, _, _, _, _, h => argsB_mem (ps := ps) h
  | .p _ :: ps, _, _, _, _, h => argsB_mem (ps := ps) h
  | .f1 _ _ :: ps, _, _, _, _, h => argsB_mem (ps := ps) h
  | .f2 _ _ _ :: ps, _, _, _, _, h => argsB_mem (ps := ps) h
theorem retF_ok {ps : List Pm} {rs : Rs} {a : PA E ps} {fn : Func} {b : Ba E} {s : St E} {act : Act} {w' : World} {y : Tp E.S (rs.ts ++ backs ps)} (hfr : Fresh g (cntA E ps))
    (hR : Rel P E Bs ⟨z, g, cntA E ps⟩ w N (s.L b) (s.H b) s.nx act w') (h : retF E P ps rs a fn.results.toList b s = some y) :
    act.defers = [] ∧ ∃ v, (results fn act.tmps).run P w' = .ok v w' ∧ EndIs P E z g Bs w ps rs a (hfst rs.ts (backs ps) (ofTp _ y)) (hsnd rs.ts (backs ps) (ofTp _ y)) v w' := by
  obtain ⟨z1, g1, hE, hH, hfz, hz1, hg1⟩ := hR
  refine ⟨hE.defers, ?_⟩
  unfold retF at h
  cases hxs : resXs E P b s fn.results.toList with
  | none => rw [hxs] at h; cases h
  | some xs0 =>
    rw [hxs] at h
    simp only at h
    obtain ⟨xs, u0, n0, g0, p1, p2, _, p4, p5, _, _⟩ := prepRs_ok rs xs0 hH hfz
    rw [p1] at h
    generalize hHu : upH (s.H b) u0 = Hu at h p4
    cases hq : takeR E (upH Hu (frzA E Hu ps rs xs)) rs xs with
    | none => rw [hq] at h; cases h
    | some q =>
      rw [hq] at h
      obtain ⟨hn, h⟩ := onlyIf_some h
      cases hb : backH E (upH Hu (frzA E Hu ps rs xs)) ps a 0 with
      | none => rw [hb] at h; cases h
      | some bh =>
        rw [hb] at h
        obtain rfl := Option.some.inj h
        rw [ofTp_toTp, hfst_hap, hsnd_hap]
        obtain ⟨us, h1, h20⟩ := resXs_ok hE hH hxs
        have h2 := p5 z1 g0 us (Ga.Le.refl g0) (h20.mono fun _ _ h => R1.le h (Fz.Le.refl z1) p2)
        obtain ⟨z2, hz2, hH2⟩ := frzA_ok p4 ps rs xs
        have hI1 : ∀ j id, q.2[j]? = some id → (List.range (cntA E ps) ++ q.2)[cntA E ps + j]? = some id := fun j id hj => by
          rw [List.getElem?_append_right (by simp)]
          simpa using hj
        have hI2 : ∀ i, i < cntA E ps → (List.range (cntA E ps) ++ q.2)[i]? = some i := fun i hi => by
          rw [List.getElem?_append_left (by simpa using hi)]
          simp [hi]
        obtain ⟨⟨svr, h3, h4⟩, h5, _⟩ := takeR_ok hH2 (n := cntA E ps) hq hI1 (h2.mono fun _ _ h => R1.le h hz2 (Ga.Le.refl g0))
        refine ⟨_, tuple_out rfl h1, z2, gOf g0 (List.range (cntA E ps) ++ q.2), svr, hz1.trans hz2, fun i l hl => ?_, h3, oneV_ok h4, hH2.leave (fun i j o p id hi hj e1 e2 => ?_) fun i o hm => ?_⟩
        · have hi : i < cntA E ps := by
            rcases Nat.lt_or_ge i (cntA E ps) with h9 | h9
            · exact h9
            · rw [hfr i h9] at hl; cases hl
          unfold gOf
          rw [hI2 i hi]
          exact p2 i l (hg1 i l hl)
        · have key : ∀ i o, (i, o) ∈ resO E rs q.1 (cntA E ps) ++ argsB E ps (putB E ps a bh) 0 → (List.range (cntA E ps) ++ q.2)[i]? = some id → ∃ p, (backI E ps 0 ++ q.2)[p]? = some id ∧ ((p < (backI E ps 0).length ∧ i = id ∧ i < cntA E ps) ∨ (cntA E ps ≤ i ∧ p = (backI E ps 0).length + (i - cntA E ps))) := fun i o hm e => by
            rcases List.mem_append.1 hm with hm | hm
            · obtain ⟨_, _, _, k1, _⟩ := resO_plain i o hm
              rw [List.getElem?_append_right (by simpa using k1)] at e
              refine ⟨(backI E ps 0).length + (i - cntA E ps), ?_, .inr ⟨k1, rfl⟩⟩
              rw [List.getElem?_append_right (by omega)]
              simpa using e
            · obtain ⟨_, _, _, _, k2⟩ := argsO_plain i o (argsB_sub hm)
              rw [hI2 i (by omega)] at e
              obtain rfl := Option.some.inj e
              obtain ⟨p, hp⟩ := List.mem_iff_getElem?.1 (argsB_mem hm)
              have hpl : p < (backI E ps 0).length := (List.getElem?_eq_some_iff.1 hp).1
              exact ⟨p, by rw [List.getElem?_append_left hpl]; exact hp, .inl ⟨hpl, rfl, by omega⟩⟩
          obtain ⟨p1, k1, k2⟩ := key i o hi e1
          obtain ⟨p2, k3, k4⟩ := key j p hj e2
          have hp := nodup_get hn k1 k3
          rcases k2 with k2 | k2 <;> rcases k4 with k4 | k4 <;> omega
        · rcases List.mem_append.1 hm with hm | hm
          · exact h5 i o hm
          · obtain ⟨o1, o2, h6, h7, h8⟩ := backH_ok hb i o hm
            obtain ⟨_, _, _, _, h9⟩ := argsO_plain i o (argsB_sub hm)
            exact ⟨i, o1, o2, hI2 i (by omega), h6, h7, h8⟩
theorem slots_in {svs : List (V1 E)} {vs : List Value} (h : All2 (R1 P E z g) svs vs) : ∀ (i t : Nat) (o : Option (SV E)), aget t (slotsOf i svs) = some o → ∃ x v, o = some (.v x) ∧ look t (argEnv i vs) = some v ∧ R1 P E z g x v := by
  induction h with
  | nil => intro i t o ho; cases ho
  | @cons x v la bs h1 _ ih =>
    intro i t o ho
    simp only [slotsOf, aget] at ho
    simp only [argEnv, look]
    cases hb : Nat.beq t i with
    | true =>
      rw [hb] at ho
      exact ⟨x, v, (Option.some.inj ho).symm, rfl, h1⟩
    | false =>
      rw [hb] at ho
      exact ih (i + 1) t o ho
theorem evFun_ok (heq : ∀ p ∈ eqs, EqFact P E p.1 p.2) (ht : tab.OK P E) {f : FuncId} {fn : Func} (hf : P.funcs[f]? = some fn) {ps : List Pm} {rs : Rs} {pl : Pl} {a : PA E ps} {y : Tp E.S (rs.ts ++ backs ps)} (h : evFun P E eqs tab fn ps rs pl a = some y) :
    CallOK P E f ps rs true a (hfst rs.ts (backs ps) (ofTp _ y)) (hsnd rs.ts (backs ps) (ofTp _ y)) := by
  intro w z g Bs svs vs hav hH hfr hv
  unfold evFun at h
  cases hb : fn.body with
  | none => rw [hb] at h; cases h
  | some c =>
    rw [hb, hav] at h
    simp only at h
    obtain ⟨hle, h⟩ := onlyIf_some h
    refine Ret.mono (R := fun v w' => EndIs P E z g Bs w ps rs a (hfst rs.ts (backs ps) (ofTp _ y)) (hsnd rs.ts (backs ps) (ofTp _ y)) v w') ?_ fun v w' ⟨z', g', svr, h1, h2, h3, h4, h5⟩ => ⟨z', g', svr, h1, (fun e => nomatch e), h2, h3, h4, h5⟩
    refine enter hf hb rfl (by rw [List.size_toArray, ← hv.len]; exact hle) fun act hE => ?_
    refine evCode_ok (Bs := Bs) (F0 := ⟨z, g, cntA E ps⟩) (w0 := w) (Qr := fun y' a' w' => a'.defers = [] ∧ ∃ v, (results fn a'.tmps).run P w' = .ok v w' ∧ EndIs P E z g Bs w ps rs a (hfst rs.ts (backs ps) (ofTp _ y')) (hsnd rs.ts (backs ps) (ofTp _ y')) v w') heq ht
      (fun b s a' w' y' hR hy => retF_ok hfr hR hy) c pl _ _ _ _ _ y act w _ hfr h ?_ ?_ ?_
    · refine ⟨z, g, ⟨hE.size, hE.defers, fun t u hu => ?_⟩, hH, hfr, Fz.Le.refl z, Ga.Le.refl g⟩
      unfold St.L at hu
      simp only at hu
      cases ha : aget t (slotsOf 0 svs) with
      | none => rw [ha] at hu; cases hu
      | some o =>
        rw [ha] at hu
        obtain ⟨x, v, h1, h2, h3⟩ := slots_in hv 0 t o ha
        subst h1
        obtain rfl := Option.some.inj hu
        exact ⟨v, hE.get t v (by simpa using h2), h3⟩
    · intro ex s' a' w' he hR'
      cases ex with
      | some i => cases he
      | none =>
        obtain ⟨h1, v, h2, h3⟩ := retF_ok hfr hR' he
        exact ⟨h1, _, h2, v, rfl, h3⟩
    · intro y' a' w' he hq
      obtain rfl := Option.some.inj he
      obtain ⟨h1, v, h2, h3⟩ := hq
      exact ⟨h1, _, h2, v, rfl, h3⟩
end
end Rt
end Go

/-
  The second engine: contracts. No program in sight.
-/
namespace Go
namespace Rt
open Go.RowKit

section
variable {P : Program} {E : TE} {eqs : List (Nat × Nat)} {tab : Tab E}
/-- Results and memory that hold nothing but numbers, truth values and text: no memory is frozen for good. -/
theorem CallOK.flat {f : FuncId} {ps : List Pm} {rs : Rs} {ali : Bool} {a : PA E ps} {rh : HL E.S rs.ts} {bh : HL E.S (backs ps)} (hr : flatRs E rs = true) (hp : flatPs E ps = true) (h : CallOK P E f ps rs ali a rh bh) : CallOK P E f ps rs false a rh bh := by
  intro w z g Bs svs vs hav hH hfr hv
  refine Ret.mono (h w z g Bs svs vs hav hH hfr hv) fun v w' ⟨z', g', svr, h1, _, h3, h4, h5, h6⟩ => ⟨z, g', svr, Fz.Le.refl z, (fun _ => rfl), h3, h4, ?_, ?_⟩
  · exact oneV_move (z := z') (g := g') rfl h5 fun vs hvs => resV_move h4 h4 hvs (fun i l _ hl => hl) (.inr hr)
  · have key : ∀ i o, upH (fun _ => none) (resO E rs rh (cntA E ps) ++ argsB E ps (putB E ps a bh) 0) i = some o → Plain E o ∧ FlatObj E o := fun i o e => by
      rcases List.mem_append.1 (upH_mem e) with hm | hm
      · obtain ⟨p, e1, e2⟩ := resO_flat hr i _ hm
        obtain ⟨p', e3, e4, _⟩ := resO_plain i _ hm
        obtain rfl := Option.some.inj e1
        obtain rfl := Option.some.inj e3
        exact ⟨e4, e2⟩
      · obtain ⟨p, e1, e2⟩ := argsB_flat hp i _ hm
        obtain ⟨p', e3, e4, _⟩ := argsO_plain i _ (argsB_sub hm)
        obtain rfl := Option.some.inj e1
        obtain rfl := Option.some.inj e3
        exact ⟨e4, e2⟩
    refine ⟨h6.chg, fun i o e => ?_, h6.own, h6.apart, fun k hk => ?_, fun k hk => .inl hk, fun i o k e hk hz => h6.fza i o k e hk (h1 k hz).1⟩
    · obtain ⟨k1, k2⟩ := key i o e
      exact (ObjR.move k1 (.inr k2) rfl (h6.hold i o e)).1
    · obtain ⟨k1, k2⟩ := h1 k hk
      have k3 := h6.fz k k1
      exact ⟨k3.1, k3.2.trans k2⟩
/-- The contract of a function on plain data. -/
def conOf (E : TE) (ps : List Pm) (rs : Rs) (ali : Bool) (f : PA E ps → Option (Tp E.S (rs.ts ++ backs ps))) : Con E :=
  ⟨ps, rs, ali, fun _ a k => (f a).bind fun y => k (hfst rs.ts (backs ps) (ofTp _ y)) (hsnd rs.ts (backs ps) (ofTp _ y))⟩
theorem conOf_ok (heq : ∀ p ∈ eqs, EqFact P E p.1 p.2) (ht : tab.OK P E) {fid : FuncId} {fn : Func} (hf : P.funcs[fid]? = some fn) {ps : List Pm} {rs : Rs} {ali : Bool} (hali : (ali || (flatRs E rs && flatPs E ps)) = true) {pl : Pl} {f : PA E ps → Option (Tp E.S (rs.ts ++ backs ps))}
    (h : ∀ a, f a = evFun P E eqs tab fn ps rs pl a) : (conOf E ps rs ali f).OK P E fid := by
  intro R a k r hr
  obtain ⟨y, h1, h2⟩ := bind_some (show (f a).bind (fun y => k (hfst rs.ts (backs ps) (ofTp _ y)) (hsnd rs.ts (backs ps) (ofTp _ y))) = some r from hr)
  rw [h a] at h1
  have h3 := evFun_ok heq ht hf h1
  refine ⟨_, _, h2, ?_⟩
  cases ali with
  | true => exact h3
  | false =>
    simp only [Bool.false_or, Bool.and_eq_true] at hali
    exact h3.flat hali.1 hali.2
end
end Rt
end Go
