/-
  The second engine: what the interpreter says of code is so. No program in sight.
-/
import Derived.Test.YtboplmpnjepdnaaGreatSe
namespace Go
namespace Rt
open Go.RowKit

section
variable {P : Program} {E : TE} {eqs : List (Nat × Nat)} {tab : Tab E} {N : Nat} {Bs : List Nat} {F0 : Org} {w0 : World} {RT : Type} {rv : Ba E → St E → Option RT} {Qr : RT → Act → World → Prop}
/-- How a way ends. -/
def exitOf : Option Nat → Exit
  | none => .normal
  | some i => .exit i
/-- What is to be shown of a piece of code. -/
def CodeOK (P : Program) (E : TE) (eqs : List (Nat × Nat)) (tab : Tab E) (N : Nat) (Bs : List Nat) (F0 : Org) (w0 : World) (RT : Type) (rv : Ba E → St E → Option RT) (Qr : RT → Act → World → Prop) (c : Code) : Prop :=
  ∀ (pl : Pl) (R : Type) (b : Ba E) (s : St E) (k : Option Nat → St E → Option R) (kr : RT → Option R) (r : R) (a : Act) (w : World) (Q : Exit → Act → World → Prop),
    Fresh F0.g b.lo → evCode P E eqs tab N RT rv c pl R b s k kr = some r → Rel P E Bs F0 w0 N (s.L b) (s.H b) s.nx a w →
    (∀ ex s' a' w', k ex s' = some r → Rel P E Bs F0 w0 N (s'.L b) (s'.H b) s'.nx a' w' → Q (exitOf ex) a' w') →
    (∀ y a' w', kr y = some r → Qr y a' w' → Q .ret a' w') → c.wp P Q a w
theorem seqPlain {x y : Code} {pl pl' : Pl} {R : Type} {b : Ba E} {s : St E} {k : Option Nat → St E → Option R} {kr : RT → Option R} {r : R} {a : Act} {w : World} {Q : Exit → Act → World → Prop}
    (hlo : Fresh F0.g b.lo) (hx : CodeOK P E eqs tab N Bs F0 w0 RT rv Qr x) (hy : CodeOK P E eqs tab N Bs F0 w0 RT rv Qr y)
    (h : evCode P E eqs tab N RT rv x pl R b s (fun ex s' => match ex with
      | none => evCode P E eqs tab N RT rv y pl' R b s' k kr
      | some i => k (some i) s') kr = some r) (hR : Rel P E Bs F0 w0 N (s.L b) (s.H b) s.nx a w)
    (hk : ∀ ex s' a' w', k ex s' = some r → Rel P E Bs F0 w0 N (s'.L b) (s'.H b) s'.nx a' w' → Q (exitOf ex) a' w') (hkr : ∀ y a' w', kr y = some r → Qr y a' w' → Q .ret a' w') : (Code.seq x y).wp P Q a w := by
  refine s_join (fun a' w' => y.wp P Q a' w') (fun _ _ h => h) (hx pl R b s _ kr r a w _ hlo h hR (fun ex s' a' w' he hR' => ?_) fun y' a' w' he hq => hkr y' a' w' he hq)
  cases ex with
  | none => exact hy pl' R b s' k kr r a' w' Q hlo he hR' hk hkr
  | some i => exact hk (some i) s' a' w' he hR'
theorem blockPlain {id : Nat} {x : Code} {pl : Pl} {R : Type} {b : Ba E} {s : St E} {k : Option Nat → St E → Option R} {kr : RT → Option R} {r : R} {a : Act} {w : World} {Q : Exit → Act → World → Prop}
    (hlo : Fresh F0.g b.lo) (hx : CodeOK P E eqs tab N Bs F0 w0 RT rv Qr x)
    (h : evCode P E eqs tab N RT rv x pl R b s (fun ex s' => match ex with
      | none => k none s'
      | some i => match Nat.beq i id with
        | true => k none s'
        | false => k (some i) s') kr = some r) (hR : Rel P E Bs F0 w0 N (s.L b) (s.H b) s.nx a w)
    (hk : ∀ ex s' a' w', k ex s' = some r → Rel P E Bs F0 w0 N (s'.L b) (s'.H b) s'.nx a' w' → Q (exitOf ex) a' w') (hkr : ∀ y a' w', kr y = some r → Qr y a' w' → Q .ret a' w') : (Code.block id x).wp P Q a w := by
  refine wp_block (hx pl R b s _ kr r a w _ hlo h hR (fun ex s' a' w' he hR' => ?_) fun y' a' w' he hq => hkr y' a' w' he hq)
  cases ex with
  | none => exact hk none s' a' w' he hR'
  | some i =>
    simp only at he
    show Exit.inBlock id Q (.exit i) a' w'
    show if i = id then Q .normal a' w' else Q (.exit i) a' w'
    split at he
    · rename_i hb
      rw [if_pos (Nat.eq_of_beq_eq_true hb)]
      exact hk none s' a' w' he hR'
    · rename_i hb
      rw [if_neg (beq_false hb)]
      exact hk (some i) s' a' w' he hR'
theorem toTp_inj {S : Nat → Type} {ts : List Ty} {x y : HL S ts} (h : toTp ts x = toTp ts y) : x = y := by
  rw [← ofTp_toTp ts x, ← ofTp_toTp ts y, h]
theorem seqJoin {x y : Code} {m : JP} {px py : Pl} {R : Type} {b : Ba E} {s : St E} {k : Option Nat → St E → Option R} {kr : RT → Option R} {r : R} {a : Act} {w : World} {Q : Exit → Act → World → Prop}
    (hlo : Fresh F0.g b.lo) (hx : CodeOK P E eqs tab N Bs F0 w0 RT rv Qr x) (hy : CodeOK P E eqs tab N Bs F0 w0 RT rv Qr y)
    (h : Option.bind (evCode P E eqs tab N RT rv x px (Tp E.S m.T) (s.base b) (St.new s.nx) (fun ex s' => match ex with
        | none => (match m.mt (s.base b) s' with | some h => some (toTp m.T h) | none => none)
        | some _ => none) (fun _ => none)) (fun o => m.go b s (ofTp m.T o) fun s' => evCode P E eqs tab N RT rv y py R b s' k kr) = some r) (hR : Rel P E Bs F0 w0 N (s.L b) (s.H b) s.nx a w)
    (hk : ∀ ex s' a' w', k ex s' = some r → Rel P E Bs F0 w0 N (s'.L b) (s'.H b) s'.nx a' w' → Q (exitOf ex) a' w') (hkr : ∀ y a' w', kr y = some r → Qr y a' w' → Q .ret a' w') : (Code.seq x y).wp P Q a w := by
  obtain ⟨o, h1, h2⟩ := bind_some h
  refine s_join (fun a' w' => ∃ s', evCode P E eqs tab N RT rv y py R b s' k kr = some r ∧ Rel P E Bs F0 w0 N (s'.L b) (s'.H b) s'.nx a' w') (fun a' w' ⟨s', h3, h4⟩ => hy py R b s' k kr r a' w' Q hlo h3 h4 hk hkr)
    (hx px _ (s.base b) (St.new s.nx) _ _ o a w _ hlo h1 hR (fun ex s' a' w' he hR' => ?_) fun y' a' w' he _ => nomatch he)
  cases ex with
  | none =>
    simp only at he
    split at he
    · rename_i hh hm
      obtain rfl := Option.some.inj he
      rw [ofTp_toTp] at h2
      exact JP.ok hlo hm hR' h2
    · cases he
  | some i => cases he
theorem seqJoinR {x y : Code} {m : JP} {px py : Pl} {R : Type} {b : Ba E} {s : St E} {k : Option Nat → St E → Option R} {kr : RT → Option R} {r : R} {a : Act} {w : World} {Q : Exit → Act → World → Prop}
    (hlo : Fresh F0.g b.lo) (hx : CodeOK P E eqs tab N Bs F0 w0 RT rv Qr x) (hy : CodeOK P E eqs tab N Bs F0 w0 RT rv Qr y)
    (h : Option.bind (evCode P E eqs tab N RT rv x px (Out (Tp E.S m.T) RT) (s.base b) (St.new s.nx) (fun ex s' => match ex with
        | none => (match m.mt (s.base b) s' with | some h => some (.fall (toTp m.T h)) | none => none)
        | some _ => none) (fun r => some (.ret r))) (fun o => match o with
          | .ret r => kr r
          | .fall o => m.go b s (ofTp m.T o) fun s' => evCode P E eqs tab N RT rv y py R b s' k kr) = some r) (hR : Rel P E Bs F0 w0 N (s.L b) (s.H b) s.nx a w)
    (hk : ∀ ex s' a' w', k ex s' = some r → Rel P E Bs F0 w0 N (s'.L b) (s'.H b) s'.nx a' w' → Q (exitOf ex) a' w') (hkr : ∀ y a' w', kr y = some r → Qr y a' w' → Q .ret a' w') : (Code.seq x y).wp P Q a w := by
  obtain ⟨o, h1, h2⟩ := bind_some h
  refine s_join (fun a' w' => ∃ s', evCode P E eqs tab N RT rv y py R b s' k kr = some r ∧ Rel P E Bs F0 w0 N (s'.L b) (s'.H b) s'.nx a' w') (fun a' w' ⟨s', h3, h4⟩ => hy py R b s' k kr r a' w' Q hlo h3 h4 hk hkr)
    (hx px _ (s.base b) (St.new s.nx) _ _ o a w _ hlo h1 hR (fun ex s' a' w' he hR' => ?_) fun y' a' w' he hq => ?_)
  · cases ex with
    | none =>
      simp only at he
      split at he
      · rename_i hh hm
        obtain rfl := Option.some.inj he
        simp only at h2
        rw [ofTp_toTp] at h2
        exact JP.ok hlo hm hR' h2
      · cases he
    | some i => cases he
  · obtain rfl := Option.some.inj he
    exact hkr y' a' w' h2 hq
theorem loopPlain {id : Nat} {body : Code} {hd ex : JP} {pb : Pl} {R : Type} {b : Ba E} {s : St E} {k : Option Nat → St E → Option R} {h0 : HL E.S hd.T} {r : R} {a : Act} {w : World} {Q : Exit → Act → World → Prop}
    (hlo : Fresh F0.g b.lo) (hx : CodeOK P E eqs tab N Bs F0 w0 RT rv Qr body) (hm : hd.mt (s.base b) (St.new s.nx) = some h0)
    (h : Option.bind (loopF (fun tp => hd.go (s.base b) (St.new s.nx) (ofTp hd.T tp) fun s1 => evCode P E eqs tab N RT rv body pb (Step (Tp E.S hd.T) (Tp E.S ex.T)) (s.base b) s1 (fun e s' => match e with
            | none => (match hd.mt (s.base b) s' with | some h => some (.next (toTp hd.T h)) | none => none)
            | some i => match Nat.beq i id with
              | true => (match ex.mt (s.base b) s' with | some h => some (.done (toTp ex.T h)) | none => none)
              | false => none) (fun _ => none)) BIG (toTp hd.T h0)) (fun o => ex.go b s (ofTp ex.T o) fun s' => k none s') = some r) (hR : Rel P E Bs F0 w0 N (s.L b) (s.H b) s.nx a w)
    (hk : ∀ ex s' a' w', k ex s' = some r → Rel P E Bs F0 w0 N (s'.L b) (s'.H b) s'.nx a' w' → Q (exitOf ex) a' w') : (Code.block id (.loop body)).wp P Q a w := by
  obtain ⟨o, h1, h2⟩ := bind_some h
  refine b_join (fun a' w' => ∃ s', k none s' = some r ∧ Rel P E Bs F0 w0 N (s'.L b) (s'.H b) s'.nx a' w') (fun a' w' ⟨s', h3, h4⟩ => hk none s' a' w' h3 h4)
    (loop_rule h1 (fun tp a' w' => ∃ s0 hh, hd.mt (s.base b) s0 = some hh ∧ tp = toTp hd.T hh ∧ Rel P E Bs F0 w0 N (s0.L (s.base b)) (s0.H (s.base b)) s0.nx a' w') ⟨_, _, hm, rfl, hR⟩ ?_)
  rintro tp a1 w1 ⟨s0, hh, h3, rfl, h4⟩ st hst hdone
  rw [ofTp_toTp] at hst
  obtain ⟨s1, h5, h6⟩ := JP.ok (b := s.base b) (s := St.new s.nx) hlo h3 h4 hst
  refine hx pb _ (s.base b) s1 _ _ st a1 w1 _ hlo h5 h6 (fun e s' a' w' he hR' => ?_) fun y' a' w' he _ => nomatch he
  cases e with
  | none =>
    simp only at he
    split at he
    · rename_i h7 hm7
      exact ⟨_, (Option.some.inj he).symm, s', h7, hm7, rfl, hR'⟩
    · cases he
  | some i =>
    simp only at he
    split at he
    · rename_i hb
      split at he
      · rename_i h7 hm7
        have h8 := hdone _ (Option.some.inj he).symm
        subst h8
        rw [ofTp_toTp] at h2
        show if i = id then _ else _
        rw [if_pos (Nat.eq_of_beq_eq_true hb)]
        exact JP.ok hlo hm7 hR' h2
      · cases he
    · cases he
theorem loopPlainR {id : Nat} {body : Code} {hd ex : JP} {pb : Pl} {R : Type} {b : Ba E} {s : St E} {k : Option Nat → St E → Option R} {kr : RT → Option R} {h0 : HL E.S hd.T} {r : R} {a : Act} {w : World} {Q : Exit → Act → World → Prop}
    (hlo : Fresh F0.g b.lo) (hx : CodeOK P E eqs tab N Bs F0 w0 RT rv Qr body) (hm : hd.mt (s.base b) (St.new s.nx) = some h0)
    (h : Option.bind (loopF (fun tp => hd.go (s.base b) (St.new s.nx) (ofTp hd.T tp) fun s1 => evCode P E eqs tab N RT rv body pb (Step (Tp E.S hd.T) (Out (Tp E.S ex.T) RT)) (s.base b) s1 (fun e s' => match e with
            | none => (match hd.mt (s.base b) s' with | some h => some (.next (toTp hd.T h)) | none => none)
            | some i => match Nat.beq i id with
              | true => (match ex.mt (s.base b) s' with | some h => some (.done (.fall (toTp ex.T h))) | none => none)
              | false => none) (fun r => some (.done (.ret r)))) BIG (toTp hd.T h0)) (fun o => match o with
          | .ret r => kr r
          | .fall o => ex.go b s (ofTp ex.T o) fun s' => k none s') = some r) (hR : Rel P E Bs F0 w0 N (s.L b) (s.H b) s.nx a w)
    (hk : ∀ ex s' a' w', k ex s' = some r → Rel P E Bs F0 w0 N (s'.L b) (s'.H b) s'.nx a' w' → Q (exitOf ex) a' w') (hkr : ∀ y a' w', kr y = some r → Qr y a' w' → Q .ret a' w') : (Code.block id (.loop body)).wp P Q a w := by
  obtain ⟨o, h1, h2⟩ := bind_some h
  refine b_join (fun a' w' => ∃ s', k none s' = some r ∧ Rel P E Bs F0 w0 N (s'.L b) (s'.H b) s'.nx a' w') (fun a' w' ⟨s', h3, h4⟩ => hk none s' a' w' h3 h4)
    (loop_rule h1 (fun tp a' w' => ∃ s0 hh, hd.mt (s.base b) s0 = some hh ∧ tp = toTp hd.T hh ∧ Rel P E Bs F0 w0 N (s0.L (s.base b)) (s0.H (s.base b)) s0.nx a' w') ⟨_, _, hm, rfl, hR⟩ ?_)
  rintro tp a1 w1 ⟨s0, hh, h3, rfl, h4⟩ st hst hdone
  rw [ofTp_toTp] at hst
  obtain ⟨s1, h5, h6⟩ := JP.ok (b := s.base b) (s := St.new s.nx) hlo h3 h4 hst
  refine hx pb _ (s.base b) s1 _ _ st a1 w1 _ hlo h5 h6 (fun e s' a' w' he hR' => ?_) fun y' a' w' he hq => ?_
  · cases e with
    | none =>
      simp only at he
      split at he
      · rename_i h7 hm7
        exact ⟨_, (Option.some.inj he).symm, s', h7, hm7, rfl, hR'⟩
      · cases he
    | some i =>
      simp only at he
      split at he
      · rename_i hb
        split at he
        · rename_i h7 hm7
          have h8 := hdone _ (Option.some.inj he).symm
          subst h8
          simp only at h2
          rw [ofTp_toTp] at h2
          show if i = id then _ else _
          rw [if_pos (Nat.eq_of_beq_eq_true hb)]
          exact JP.ok hlo hm7 hR' h2
        · cases he
      · cases he
  · have h8 := hdone _ (Option.some.inj he).symm
    subst h8
    exact hkr y' a' w' h2 hq
end
end Rt
end Go
