/-
  The second engine: contracts. No program in sight.
-/
import Derived.Test.YtboplmpnjepdnaaGreatSj
namespace Go
namespace Rt
open Go.RowKit

section
variable {P : Program} {E : TE} {eqs : List (Nat × Nat)} {tab : Tab E}
/-- Results and memory that hold nothing but numbers, truth values and text: no memory is frozen for good. -/
theorem CallOK.flat {f : FuncId} {ps : List Pm} {rs : Rs} {ali : Bool} {a : PA E ps} {rh : HL E.S rs.ts} {bh : HL E.S (backs ps)} (hr : flatRs E rs = true) (hp : flatPs E ps = true) (h : CallOK P E f ps rs ali a rh bh) : CallOK P E f ps rs false a rh bh := by
  intro w z g Bs svs vs hav hH hfr hv
  refine Ret.mono (h w z g Bs svs vs hav hH hfr hv) fun v w' ⟨z', g', svr, h1, _, h3, h4, h5, h6⟩ => ⟨z, g', svr, Fz.Le.refl z, (fun _ => rfl), h3, h4, ?_, ?_⟩
  · exact oneV_move (z := z') (g := g') rfl h5 fun vs hvs => resV_move h4 h4 hvs (fun i l _ hl => hl) (.inr hr)
  · have key : ∀ i o, upH (fun _ => none) (resO E rs rh (cntA E ps) ++ argsO E ps (putB E ps a bh) 0) i = some o → Plain E o ∧ FlatObj E o := fun i o e => by
      rcases List.mem_append.1 (upH_mem e) with hm | hm
      · obtain ⟨p, e1, e2⟩ := resO_flat hr i _ hm
        obtain ⟨p', e3, e4, _⟩ := resO_plain i _ hm
        obtain rfl := Option.some.inj e1
        obtain rfl := Option.some.inj e3
        exact ⟨e4, e2⟩
      · obtain ⟨p, e1, e2⟩ := argsO_flat hp i _ hm
        obtain ⟨p', e3, e4, _⟩ := argsO_plain i _ hm
        obtain rfl := Option.some.inj e1
        obtain rfl := Option.some.inj e3
        exact ⟨e4, e2⟩
    refine ⟨h6.chg, fun i o e => ?_, h6.own, h6.apart, fun k hk => ?_, fun k hk => .inl hk, fun i o k e hk hz => h6.fza i o k e hk (h1 k hz).1⟩
    · obtain ⟨k1, k2⟩ := key i o e
      exact (ObjR.move k1 (.inr k2) rfl (h6.hold i o e)).1
    · obtain ⟨k1, k2⟩ := h1 k hk
      have k3 := h6.fz k k1
      exact ⟨k3.1, k3.2.trans k2⟩
/-- The contract of a function on plain data. -/
def conOf (E : TE) (ps : List Pm) (rs : Rs) (ali : Bool) (f : PA E ps → Option (Tp E.S (rs.ts ++ backs ps))) : Con E :=
  ⟨ps, rs, ali, fun _ a k => (f a).bind fun y => k (hfst rs.ts (backs ps) (ofTp _ y)) (hsnd rs.ts (backs ps) (ofTp _ y))⟩
theorem conOf_ok (heq : ∀ p ∈ eqs, EqFact P E p.1 p.2) (ht : tab.OK P E) {fid : FuncId} {fn : Func} (hf : P.funcs[fid]? = some fn) {ps : List Pm} {rs : Rs} {ali : Bool} (hali : (ali || (flatRs E rs && flatPs E ps)) = true) {pl : Pl} {f : PA E ps → Option (Tp E.S (rs.ts ++ backs ps))}
    (h : ∀ a, f a = evFun P E eqs tab fn ps rs pl a) : (conOf E ps rs ali f).OK P E fid := by
  intro R a k r hr
  obtain ⟨y, h1, h2⟩ := bind_some (show (f a).bind (fun y => k (hfst rs.ts (backs ps) (ofTp _ y)) (hsnd rs.ts (backs ps) (ofTp _ y))) = some r from hr)
  rw [h a] at h1
  have h3 := evFun_ok heq ht hf h1
  refine ⟨_, _, h2, ?_⟩
  cases ali with
  | true => exact h3
  | false =>
    simp only [Bool.false_or, Bool.and_eq_true] at hali
    exact h3.flat hali.1 hali.2
end
end Rt
end Go
