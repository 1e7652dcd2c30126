/-
  The second engine, eleventh text: what is handed over in a call, as the called function sees it. No program in sight.
-/
import Derived.Test.YtboplmpnjepdnaaGreatRj
namespace Go
namespace Rt
open Go.RowKit

section
variable {P : Program} {E : TE} {z z' : Fz} {g g' : Ga} {nx : Nat} {w w' w0 : World} {H H' : Nat → Option (Obj E)} {Bs : List Nat} {F0 : Nat → Prop}
theorem takeM_val {I : List Nat} {m : Mk} (hH : HR P E Bs F0 w0 w z g H) : ∀ {ts : List Ty} {cs : List (SC E)} {q : HL E.S ts × List Nat} {n : Nat} {vs : List Value}, takeM E H m ts cs = some q → (∀ j id, q.2[j]? = some id → I[n + j]? = some id) →
    All2 (RC P E z g) cs vs → All2 (RC P E z (gOf g I)) (ownC E m ts q.1 n) vs ∧ cs.length = ts.length ∧ (ownC E m ts q.1 n).length = ts.length := by
  induction m with
  | nil =>
    intro ts cs q n vs h hI hv
    simp only [takeM] at h
    split at h
    · rename_i hd hh
      obtain rfl := Option.some.inj h
      have e : ownC E ([] : Mk) ts hd n = hlc E ts hd := by cases ts <;> rfl
      rw [e]
      exact ⟨hlc_rd.1 (dataL_ok hH hh hv), dataL_len hh, hlc_len ts hd⟩
    · cases h
  | cons a m ih =>
    intro ts cs q n vs h hI hv
    cases ts with
    | nil => cases a <;> simp [takeM] at h
    | cons t ts =>
      cases a with
      | none =>
        cases cs with
        | nil => simp [takeM] at h
        | cons c cs =>
          simp only [takeM] at h
          split at h
          · rename_i x q' hx hq
            obtain rfl := Option.some.inj h
            cases hv with
            | cons h1 h2 =>
              obtain ⟨h3, h4, h5⟩ := ih hq hI h2
              simp only [ownC]
              exact ⟨.cons (SC.data_ok hH hx h1) h3, by simp [h4], by simp [h5]⟩
          · cases h
      | some e =>
        cases t with
        | sl t =>
          cases cs with
          | nil => simp [takeM] at h
          | cons c cs =>
            cases c with
            | own id =>
              simp only [takeM] at h
              split at h
              · rename_i e' t' xs foc hi
                split at h
                · rename_i ht
                  subst ht
                  split at h
                  · rename_i q' hb hq
                    obtain rfl := Option.some.inj h
                    cases hv with
                    | cons h1 h2 =>
                      obtain ⟨h3, h4, h5⟩ := ih (n := n + 1) hq (fun j id' hj => by
                        have := hI (j + 1) id' (by simpa using hj)
                        rwa [show n + 1 + j = n + (j + 1) by omega]) h2
                      simp only [ownC]
                      have h0 : I[n]? = some id := by simpa using hI 0 id (by simp)
                      obtain ⟨l, h6, h7⟩ := h1
                      exact ⟨.cons ⟨l, by unfold gOf; rw [h0]; exact h6, h7⟩ h3, by simp [h4], by simp [h5]⟩
                  · cases h
                · cases h
              · cases h
            | _ => simp [takeM] at h
        | _ => cases cs <;> simp [takeM] at h
/-! ### Function values -/
theorem capsD_ok (hH : HR P E Bs F0 w0 w z g H) (hz : z.Le z') (g' : Ga) : ∀ {ps : List Pm} {ids : List Nat} {a : PA E ps} {us : List Value} {n : Nat}, capsD E H ps ids = some a → All2 (fun id u => ∃ l, g id = some l ∧ u = Value.pointer (some ⟨l.b, 0, none⟩)) ids us →
    (∃ svs, argsV E ps a n = some svs ∧ All2 (R1 P E z' g') svs us) ∧ argsO E ps a n = [] ∧ cntA E ps = 0
  | [], [], a, us, n, h, hu => by
    cases hu
    exact ⟨⟨[], rfl, .nil⟩, rfl, rfl⟩
  | .p t :: ps, id :: ids, a, us, n, h, hu => by
    simp only [capsD] at h
    split at h
    · rename_i t' x hi
      split at h
      · rename_i ht
        subst ht
        split at h
        · rename_i a' ha
          obtain rfl := Option.some.inj h
          cases hu with
          | cons h1 h2 =>
            obtain ⟨⟨svs, h3, h4⟩, h5, h6⟩ := capsD_ok hH hz g' (n := n) ha h2
            obtain ⟨l, h7, rfl⟩ := h1
            obtain ⟨l', r, h8, h9, h10, h11⟩ := hH.hold _ _ hi
            rw [h7] at h8; obtain rfl := Option.some.inj h8
            refine ⟨⟨.one (.elf t' x 0) :: svs, by simp only [argsV, h3], .cons ⟨l.b, 0, r, rfl, (hz _ h9).1, h10.le hz, fun j u hj => ?_⟩ h4⟩, h5, h6⟩
            rw [Nat.zero_add, World.cell?_of_block (w := z.w) (hz _ h9).2]
            exact h11 j u hj
        · cases h
      · cases h
    · cases h
  | [], id :: ids, a, us, n, h, hu => by simp [capsD] at h
  | .p t :: ps, [], a, us, n, h, hu => by simp [capsD] at h
  | .d t :: ps, ids, a, us, n, h, hu => by simp [capsD] at h
  | .l t m :: ps, ids, a, us, n, h, hu => by simp [capsD] at h
  | .g t m :: ps, ids, a, us, n, h, hu => by simp [capsD] at h
  | .b T t :: ps, ids, a, us, n, h, hu => by simp [capsD] at h
  | .mp T k v :: ps, ids, a, us, n, h, hu => by simp [capsD] at h
  | .f1 x r :: ps, ids, a, us, n, h, hu => by simp [capsD] at h
  | .f2 x y r :: ps, ids, a, us, n, h, hu => by simp [capsD] at h
theorem HR.nothing {z : Fz} {w : World} (hz : z.In w) (g : Ga) : HR P E [] z.F w w z g (fun _ => none) :=
  ⟨Chg.of_below (Below.refl _ _), (fun _ _ h => by cases h), (fun _ _ _ h => by cases h), (fun _ _ _ _ _ _ h => by cases h), hz, (fun _ h => .inl h), (fun _ _ _ h => by cases h)⟩
def Tab.OK (P : Program) (E : TE) (tab : Tab E) : Prop := ∀ f C, tab f = some C → C.OK P E f ∧ bodyB P f = true
theorem RT_asV {t : Ty} {x : Den E.S t} {v : Value} (h : RT E z t x v) (g : Ga) : ∃ y, asV E t (E.cells t x) = some y ∧ R1 P E z g y v := by
  cases t with
  | st n =>
    obtain ⟨vs, rfl, h⟩ := h
    exact ⟨_, rfl, vs, rfl, cells_rd (t := .st n).1 h⟩
  | int k => exact ⟨_, rfl, h⟩
  | bool => exact ⟨_, rfl, h⟩
  | str => exact ⟨_, rfl, h⟩
  | sl e => exact ⟨_, rfl, h⟩
/-- A function of one flat result, called with data alone. -/
theorem call_flat {f : FuncId} {ps : List Pm} {r : Ty} {a : PA E ps} {rh : HL E.S (Rs.ts [(r, [])])} {bh : HL E.S (backs ps)} {svs : List (V1 E)} {vs : List Value} (hr : r.flatB = true) (hc : CallOK P E f ps [(r, [])] false a rh bh) (hz : z.In w)
    (hs : argsV E ps a 0 = some svs) (ho : argsO E ps a 0 = []) (hv : All2 (R1 P E z fun _ => none) svs vs) :
    Ret P f vs.toArray w fun u w' => RD E z [r] (rh.1, ()) [u] ∧ Ext w w' := by
  have h := hc w z (fun _ => .none) [] svs vs hs (by rw [ho]; exact HR.nothing hz _) (fun _ _ => rfl) hv
  refine h.mono fun u w' ⟨z', g', svr, hle, hzz, _, hres, hrv, hHR⟩ => ?_
  obtain rfl := hzz rfl
  refine ⟨?_, Ext.of_below hHR.chg.below⟩
  have hsvr : svr = [.one (.dt r rh.1)] := by
    cases r with
    | int k => simp [resV, ownC, TE.flat, TE.fl, hlc, asV] at hres; exact hres.symm
    | bool => simp [resV, ownC, TE.flat, TE.fl, hlc, asV] at hres; exact hres.symm
    | str => simp [resV, ownC, TE.flat, TE.fl, hlc, asV] at hres; exact hres.symm
    | sl e => cases hr
    | st n => cases hr
  subst hsvr
  exact hrv
theorem takeF1_ok {tab : Tab E} (ht : tab.OK P E) {x r : Ty} {c : SC E} {f : Den E.S x → Option (Den E.S r)} {v : Value} (hH : HR P E Bs F0 w0 w z g H) (h : takeF1 E tab H x r c = some f) (hr : RC P E z g c v) : FnOK P E z v [x] r fun h => f h.1 := by
  unfold takeF1 at h
  split at h
  · split at h
    · rename_i hx
      obtain ⟨rfl, rfl⟩ := hx
      obtain rfl := Option.some.inj h
      exact hr
    · cases h
  · rename_i fid ids
    split at h
    · rename_i C hC
      obtain ⟨hok, hbody⟩ := ht fid C hC
      obtain ⟨ps, rs, ali, F⟩ := C
      split at h
      · rename_i x' ps' hps
        simp only at hps
        subst hps
        split at h
        · rename_i hx
          subst hx
          split at h
          · rename_i hrs
            simp only at hrs
            subst hrs
            split at h
            · rename_i caps hb hcaps
              simp only [Bool.and_eq_true, Bool.not_eq_true'] at hb
              obtain ⟨hfl, rfl⟩ := hb
              obtain rfl := Option.some.inj h
              obtain ⟨us, rfl, hus⟩ := hr
              refine ⟨fid, us.toArray, rfl, ⟨hbody, hfl⟩, fun w1 z1 hh y args hz1 hin hargs hF => ?_⟩
              obtain ⟨rh, bh, hk, hcall⟩ := hok _ _ _ _ hF
              obtain ⟨v1, vs1, rfl, h1, h2⟩ := hargs
              simp only [RTs] at h2
              subst h2
              obtain ⟨⟨svs, h3, h4⟩, h5, h6⟩ := capsD_ok (P := P) hH hz1 (fun _ => .none) (n := 0) hcaps hus
              obtain ⟨sv, h7, h8⟩ := RT_asV (P := P) h1 (fun _ => .none)
              have := call_flat hfl hcall hin (svs := sv :: svs) (vs := v1 :: us) (by simp only [argsV, h7, h3]) h5 (.cons h8 h4)
              have e : (#[v1] ++ us.toArray : Array Value) = (v1 :: us).toArray := by simp
              have hy : rh.1 = y := by simpa [res1] using hk
              rw [show [v1].toArray = #[v1] from rfl, e, ← hy]
              exact this
            · cases h
          · cases h
        · cases h
      · cases h
    · cases h
  · cases h
theorem takeF2_ok {tab : Tab E} (ht : tab.OK P E) {x y r : Ty} {c : SC E} {f : Den E.S x → Den E.S y → Option (Den E.S r)} {v : Value} (hH : HR P E Bs F0 w0 w z g H) (h : takeF2 E tab H x y r c = some f) (hr : RC P E z g c v) : FnOK P E z v [x, y] r fun h => f h.1 h.2.1 := by
  unfold takeF2 at h
  split at h
  · split at h
    · rename_i hx
      obtain ⟨rfl, rfl, rfl⟩ := hx
      obtain rfl := Option.some.inj h
      exact hr
    · cases h
  · rename_i fid ids
    split at h
    · rename_i C hC
      obtain ⟨hok, hbody⟩ := ht fid C hC
      obtain ⟨ps, rs, ali, F⟩ := C
      split at h
      · rename_i x' y' ps' hps
        simp only at hps
        subst hps
        split at h
        · rename_i hx
          subst hx
          split at h
          · rename_i hy
            subst hy
            split at h
            · rename_i hrs
              simp only at hrs
              subst hrs
              split at h
              · rename_i caps hb hcaps
                simp only [Bool.and_eq_true, Bool.not_eq_true'] at hb
                obtain ⟨hfl, rfl⟩ := hb
                obtain rfl := Option.some.inj h
                obtain ⟨us, rfl, hus⟩ := hr
                refine ⟨fid, us.toArray, rfl, ⟨hbody, hfl⟩, fun w1 z1 hh y args hz1 hin hargs hF => ?_⟩
                obtain ⟨rh, bh, hk, hcall⟩ := hok _ _ _ _ hF
                obtain ⟨v1, vs1, rfl, h1, h2⟩ := hargs
                obtain ⟨v2, vs2, rfl, h2, h2'⟩ := h2
                simp only [RTs] at h2'
                subst h2'
                obtain ⟨⟨svs, h3, h4⟩, h5, h6⟩ := capsD_ok (P := P) hH hz1 (fun _ => .none) (n := 0) hcaps hus
                obtain ⟨sv, h7, h8⟩ := RT_asV (P := P) h1 (fun _ => .none)
                obtain ⟨sv2, h9, h10⟩ := RT_asV (P := P) h2 (fun _ => .none)
                have := call_flat hfl hcall hin (svs := sv :: sv2 :: svs) (vs := v1 :: v2 :: us) (by simp only [argsV, h7, h3, h9]) h5 (.cons h8 (.cons h10 h4))
                have e : (#[v1, v2] ++ us.toArray : Array Value) = (v1 :: v2 :: us).toArray := by simp
                have hy : rh.1 = y := by simpa [res1] using hk
                rw [show [v1, v2].toArray = #[v1, v2] from rfl, e, ← hy]
                exact this
              · cases h
            · cases h
          · cases h
        · cases h
      · cases h
    · cases h
  · cases h
end
end Rt
end Go
