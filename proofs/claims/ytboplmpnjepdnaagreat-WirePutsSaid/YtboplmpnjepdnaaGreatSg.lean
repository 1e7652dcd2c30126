/-
  The second engine: what the interpreter says of code is so: the whole. No program in sight.
-/
import Derived.Test.YtboplmpnjepdnaaGreatSf
namespace Go
namespace Rt
open Go.RowKit

section
variable {P : Program} {E : TE} {eqs : List (Nat × Nat)} {tab : Tab E} {N : Nat} {Bs : List Nat} {F0 : Org} {w0 : World} {RT : Type} {rv : Ba E → St E → Option RT} {Qr : RT → Act → World → Prop}
theorem evCode_both (heq : ∀ p ∈ eqs, EqFact P E p.1 p.2) (ht : tab.OK P E) (hrv : ∀ b s a w y, Rel P E Bs F0 w0 N (s.L b) (s.H b) s.nx a w → rv b s = some y → Qr y a w) : ∀ (c : Code), CodeOK P E eqs tab N Bs F0 w0 RT rv Qr c ∧ ∀ body, c = .loop body → CodeOK P E eqs tab N Bs F0 w0 RT rv Qr body := by
  intro c
  induction c with
  | skip =>
    refine ⟨?_, fun _ e => nomatch e⟩
    intro pl R b s k kr r a w Q hlo h hR hk hkr
    rw [evCode.eq_def] at h
    exact wp_skip (hk none s a w h hR)
  | region id ops d =>
    refine ⟨?_, fun _ e => nomatch e⟩
    intro pl R b s k kr r a w Q hlo h hR hk hkr
    rw [evCode.eq_def] at h
    cases d with
    | true =>
      cases pl with
      | dr fl hs fm ids =>
        have := evDraw_ok (id := id) (Q := Q) heq ht h hR fun s' a' w' h1 h2 => hk none s' a' w' h1 h2
        rw [Array.toArray_toList] at this
        exact this
      | _ => cases h
    | false =>
      have := evReg_ok (id := id) (Q := Q) heq ht h hR fun s' a' w' h1 h2 => hk none s' a' w' h1 h2
      rw [Array.toArray_toList] at this
      exact this
  | seq x y hx hy =>
    refine ⟨?_, fun _ e => nomatch e⟩
    obtain ⟨hx, _⟩ := hx
    obtain ⟨hy, _⟩ := hy
    intro pl R b s k kr r a w Q hlo h hR hk hkr
    cases pl with
    | j m ret px py =>
      cases ret with
      | false => exact seqJoin hlo hx hy h hR hk hkr
      | true => exact seqJoinR hlo hx hy h hR hk hkr
    | p => exact seqPlain hlo hx hy h hR hk hkr
    | s px py => exact seqPlain hlo hx hy h hR hk hkr
    | lp hd ex ret px => exact seqPlain hlo hx hy h hR hk hkr
    | dr fl hs fm ids => exact seqPlain hlo hx hy h hR hk hkr
  | cond t x y hx hy =>
    refine ⟨?_, fun _ e => nomatch e⟩
    obtain ⟨hx, _⟩ := hx
    obtain ⟨hy, _⟩ := hy
    intro pl R b s k kr r a w Q hlo h hR hk hkr
    rw [evCode.eq_def] at h
    simp only at h
    split at h
    · rename_i c hc
      have hv : a.eval t = .bool c := by
        obtain ⟨z, g, hE, _, _⟩ := hR
        exact SV.bool_ok rfl (hE.op _ _ hc)
      refine wp_cond hv ?_
      cases c with
      | true => exact hx _ R b s k kr r a w Q hlo h hR hk hkr
      | false => exact hy _ R b s k kr r a w Q hlo h hR hk hkr
    · cases h
  | block id x hx =>
    refine ⟨?_, fun _ e => nomatch e⟩
    obtain ⟨hx, hl⟩ := hx
    intro pl R b s k kr r a w Q hlo h hR hk hkr
    have plain : evCode P E eqs tab N RT rv x pl R b s (fun ex s' => match ex with
      | none => k none s'
      | some i => match Nat.beq i id with
        | true => k none s'
        | false => k (some i) s') kr = some r → (Code.block id x).wp P Q a w := fun h => blockPlain hlo hx h hR hk hkr
    cases x with
    | loop body =>
      cases pl with
      | lp hd ex ret pb =>
        have hb := hl body rfl
        rw [evCode.eq_def] at h
        simp only at h
        split at h
        · cases h
        · rename_i h0 hm
          cases ret with
          | false => exact loopPlain hlo hb hm h hR hk
          | true => exact loopPlainR hlo hb hm h hR hk hkr
      | p => exact plain h
      | s px py => exact plain h
      | j m ret px py => exact plain h
      | dr fl hs fm ids => exact plain h
    | _ => exact plain h
  | exit i =>
    refine ⟨?_, fun _ e => nomatch e⟩
    intro pl R b s k kr r a w Q hlo h hR hk hkr
    exact wp_exit (hk (some i) s a w h hR)
  | scope x hx =>
    refine ⟨?_, fun _ e => nomatch e⟩
    obtain ⟨hx, _⟩ := hx
    intro pl R b s k kr r a w Q hlo h hR hk hkr
    exact wp_scope_straight (hx pl R b s k kr r a w _ hlo h hR (fun ex s' a' w' h1 h2 => by cases ex <;> exact hk _ s' a' w' h1 h2) fun y a' w' h1 h2 => hkr y a' w' h1 h2)
  | ret =>
    refine ⟨?_, fun _ e => nomatch e⟩
    intro pl R b s k kr r a w Q hlo h hR hk hkr
    rw [evCode.eq_def] at h
    simp only at h
    split at h
    · rename_i y hy
      exact wp_ret (hkr y a w h (hrv b s a w y hR hy))
    · cases h
  | loop x hx =>
    refine ⟨?_, fun body e => by injection e with e; subst e; exact hx.1⟩
    intro pl R b s k kr r a w Q hlo h hR hk hkr
    rw [evCode.eq_def] at h
    cases h
  | _ =>
    refine ⟨?_, fun _ e => nomatch e⟩
    intro pl R b s k kr r a w Q hlo h hR hk hkr
    rw [evCode.eq_def] at h
    cases h
theorem evCode_ok (heq : ∀ p ∈ eqs, EqFact P E p.1 p.2) (ht : tab.OK P E) (hrv : ∀ b s a w y, Rel P E Bs F0 w0 N (s.L b) (s.H b) s.nx a w → rv b s = some y → Qr y a w) (c : Code) : CodeOK P E eqs tab N Bs F0 w0 RT rv Qr c := (evCode_both heq ht hrv c).1
end
end Rt
end Go
