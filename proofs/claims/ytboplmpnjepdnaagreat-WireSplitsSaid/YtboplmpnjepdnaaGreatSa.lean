/-
  The second engine: what the interpreter says of lists of operations is so. No program in sight.
-/
import Derived.Test.YtboplmpnjepdnaaGreatRq
namespace Go
namespace Rt
open Go.RowKit

/-- Where a call began: what was frozen, and where its parameters lie. -/
structure Org where
  z : Fz
  g : Ga
  lo : Nat
variable {P : Program} {E : TE} {eqs : List (Nat × Nat)} {tab : Tab E} {N : Nat} {Bs : List Nat} {F0 : Org} {w0 : World}
/-- Slots and memory are as they should be. -/
def Rel (P : Program) (E : TE) (Bs : List Nat) (F0 : Org) (w0 : World) (N : Nat) (L : Nat → Option (SV E)) (H : Nat → Option (Obj E)) (nx : Nat) (a : Act) (w : World) : Prop :=
  ∃ z g, ER P E z g N a L ∧ HR P E Bs F0.z.F w0 w z g H ∧ Fresh g nx ∧ F0.z.Le z ∧ F0.g.Le g
theorem Rel.less {L L' : Nat → Option (SV E)} {H H' : Nat → Option (Obj E)} {nx nx' : Nat} {a : Act} {w : World} (h : Rel P E Bs F0 w0 N L H nx a w) (hL : ∀ t s, L' t = some s → L t = some s) (hH : ∀ i o, H' i = some o → H i = some o) (hn : nx ≤ nx') : Rel P E Bs F0 w0 N L' H' nx' a w :=
  let ⟨z, g, h1, h2, h3, h4⟩ := h
  ⟨z, g, h1.less hL, h2.less hH, (fun i hi => h3 i (by omega)), h4⟩
theorem ER.del {z : Fz} {g : Ga} {a : Act} {L L' : Nat → Option (SV E)} (h : ER P E z g N a L) {d : Nat} {v : Value} (hL : ∀ t u, L' t = some u → t ≠ d ∧ L t = some u) : ER P E z g N (a.put (some d) v) L' := by
  refine ⟨by simpa [Act.put] using h.size, h.defers, fun t u e => ?_⟩
  obtain ⟨h1, h2⟩ := hL t u e
  obtain ⟨v', h3, h4⟩ := h.get t u h2
  refine ⟨v', ?_, h4⟩
  simp only [Act.put]
  rw [Array.getElem?_setIfInBounds_ne (Ne.symm h1)]
  exact h3
theorem after_ok2 {b : Ba E} {s s1 : St E} {o : Oper} {v : Option (SV E)} {u : Chs E} {a : Act} {w' : World} {x : Value} {z : Fz} {g : Ga} (h : s.after N o v u = some s1) (hE : ER P E z g N a (s.L b)) (hH : HR P E Bs F0.z.F w0 w' z g (upH (s.H b) u)) (hf : Fresh g (s.nx + 1 + u.length)) (hv : ∀ sv, v = some sv → RV P E z g sv x) :
    (ER P E z g N (a.put o.dst x) (s1.L b) ∧ HR P E Bs F0.z.F w0 w' z g (s1.H b) ∧ Fresh g s1.nx ∧ s1.H b = upH (s.H b) u) ∧ (∀ t, (∀ d, o.dst = some d → t ≠ d) → s1.L b t = s.L b t) := by
  unfold St.after at h
  have hHe : ∀ (env : List (Nat × Option (SV E))) (nx : Nat), (St.H b { s with env := env, heap := u ++ s.heap, nx := nx }) = upH (s.H b) u := fun env nx => by
    unfold St.H
    rw [upH_append]
  cases hd : o.dst with
  | none =>
    rw [hd] at h
    obtain rfl := Option.some.inj h
    refine ⟨⟨hE, ?_, hf, hHe _ _⟩, fun t _ => rfl⟩
    have := hHe s.env (s.nx + 1 + u.length)
    show HR P E Bs F0.z.F w0 w' z g (St.H b _)
    rw [this]; exact hH
  | some d =>
    rw [hd] at h
    simp only at h
    split at h
    · rename_i hN
      obtain rfl := Option.some.inj h
      have hL : ∀ t, t ≠ d → St.L b { s with env := (d, v) :: s.env, heap := u ++ s.heap, nx := s.nx + 1 + u.length } t = s.L b t := fun t ht => by
        unfold St.L
        simp only [aget]
        split
        · rename_i hx
          split at hx
          · rename_i hb; exact absurd (Nat.eq_of_beq_eq_true hb) ht
          · rw [hx]
        · rename_i hx
          split at hx
          · cases hx
          · rw [hx]
      have hLd : St.L b { s with env := (d, v) :: s.env, heap := u ++ s.heap, nx := s.nx + 1 + u.length } d = v := by
        unfold St.L
        simp only [aget]
        have : Nat.beq d d = true := by simp
        rw [this]
      refine ⟨⟨?_, ?_, hf, hHe _ _⟩, fun t ht => hL t (ht d rfl)⟩
      · cases v with
        | some sv =>
          refine hE.put hN (hv sv rfl) fun t u' e => ?_
          by_cases ht : t = d
          · subst ht
            rw [hLd] at e
            exact .inl ⟨rfl, (Option.some.inj e).symm⟩
          · rw [hL t ht] at e
            exact .inr ⟨ht, e⟩
        | none =>
          refine hE.del fun t u' e => ?_
          by_cases ht : t = d
          · subst ht
            rw [hLd] at e
            cases e
          · rw [hL t ht] at e
            exact ⟨ht, e⟩
      · have := hHe ((d, v) :: s.env) (s.nx + 1 + u.length)
        rw [this]; exact hH
    · cases h
theorem after_ok {b : Ba E} {s s1 : St E} {o : Oper} {v : Option (SV E)} {u : Chs E} {a : Act} {w' : World} {x : Value} {z : Fz} {g : Ga} (h : s.after N o v u = some s1) (hE : ER P E z g N a (s.L b)) (hH : HR P E Bs F0.z.F w0 w' z g (upH (s.H b) u)) (hz0 : F0.z.Le z) (hg0 : F0.g.Le g) (hf : Fresh g (s.nx + 1 + u.length)) (hv : ∀ sv, v = some sv → RV P E z g sv x) :
    Rel P E Bs F0 w0 N (s1.L b) (s1.H b) s1.nx (a.put o.dst x) w' ∧ (∀ t, (∀ d, o.dst = some d → t ≠ d) → s1.L b t = s.L b t) :=
  let ⟨⟨h1, h2, h3, _⟩, h4⟩ := after_ok2 h hE hH hf hv
  ⟨⟨z, g, h1, h2, h3, hz0, hg0⟩, h4⟩
/-! ### Guards -/
def gdOK (all : List Oper) (gd : Gd) (L : Nat → Option (SV E)) : Prop := match gd with
  | none => True
  | some (j, w, d) => (∃ oj, all[j]? = some oj ∧ oj.dst = some d) ∧ ∃ c, L d = some (.v (.one (.dt .bool c))) ∧ c = w
theorem yielded_at {all : List Oper} {j d : Nat} {oj : Oper} {a : Act} {c : Bool} (h1 : all[j]? = some oj) (h2 : oj.dst = some d) (h3 : a.tmps[d]? = some (.bool c)) : yielded all.toArray a.tmps j = some c := by
  unfold yielded
  simp [h1, h2, h3]
theorem guard_wanted {all : List Oper} {gd : Gd} {L : Nat → Option (SV E)} {o : Oper} {a : Act} {z : Fz} {g : Ga} (h : guardOK o gd = true) (hg : gdOK all gd L) (hE : ER P E z g N a L) : Region.wanted o (yielded all.toArray a.tmps) = true := by
  unfold guardOK at h
  unfold Region.wanted
  split at h
  · split at h
    · rename_i hn; rw [hn]
    · cases h
  · rename_i j w d
    split at h
    · cases h
    · rename_i j' w' hgd
      simp only [Bool.and_eq_true] at h
      obtain rfl := Nat.eq_of_beq_eq_true h.1
      have hww : w = w' := by cases w <;> cases w' <;> simp_all
      subst hww
      obtain ⟨⟨oj, h1, h2⟩, c, h3, rfl⟩ := hg
      obtain ⟨v, h4, h5⟩ := hE.get d _ h3
      rw [hgd]
      have hv := SV.bool_ok rfl h5
      subst hv
      simp only
      rw [yielded_at h1 h2 h4]
      simp
/-- How lists of operations are walked. J: what is so behind them. -/
structure Walk (P : Program) (E : TE) (ev : Ev E) (N : Nat) (Bs : List Nat) (F0 : Org) (w0 : World) (all : List Oper) where
  W : (Act → World → Prop) → List Oper → Nat → Act → World → Prop
  nil : ∀ {J i a w}, J a w → W J [] i a w
  app : ∀ {J1 J l1 l2 i a w}, W J1 l1 i a w → (∀ a w, J1 a w → W J l2 (i + l1.length) a w) → W J (l1 ++ l2) i a w
  skip : ∀ {J o l i a w}, all[i]? = some o → Region.wanted o (yielded all.toArray a.tmps) = false → W J l (i + 1) (a.put o.dst undef) w → W J (o :: l) i a w
  step : ∀ {J o l i a w} {R : Type} {L H nx z g} {k : Option (SV E) → Chs E → Option R} {r : R}, all[i]? = some o → Region.wanted o (yielded all.toArray a.tmps) = true →
    ER P E z g N a L → HR P E Bs F0.z.F w0 w z g H → Fresh g nx → F0.z.Le z → F0.g.Le g → ev L H nx o R k = some r →
    (∀ s u v w' z2 g2, k s u = some r → z.Le z2 → g.Le g2 → ER P E z2 g2 N a L → HR P E Bs F0.z.F w0 w' z2 g2 (upH H u) → Fresh g2 (nx + 1 + u.length) → (∀ sv, s = some sv → RV P E z2 g2 sv v) → W J l (i + 1) (a.put o.dst v) w') → W J (o :: l) i a w
  pick : ∀ {J o l i a w v}, all[i]? = some o → Region.wanted o (yielded all.toArray a.tmps) = true → (∀ w, (execOp a.eval o).run P w = .ok (.value v) w) → W J l (i + 1) (a.put o.dst v) w → W J (o :: l) i a w
theorem splitPick_eq {d : Nat} : ∀ {l body rest : List Oper} {pk : Oper}, splitPick d l = some (body, pk, rest) → l = body ++ pk :: rest ∧ ∃ x y, pk.op = .pick (.tmp d) x y
  | [], _, _, _, h => by cases h
  | o :: r, body, rest, pk, h => by
    have tail : ∀ {q : List Oper × Oper × List Oper}, splitPick d r = some q → (o :: q.1, q.2.1, q.2.2) = (body, pk, rest) → o :: r = body ++ pk :: rest ∧ ∃ x y, pk.op = .pick (.tmp d) x y := by
      rintro ⟨l, p, q⟩ hq he
      simp only [Prod.mk.injEq] at he
      obtain ⟨rfl, rfl, rfl⟩ := he
      obtain ⟨h1, h2⟩ := splitPick_eq hq
      exact ⟨by rw [h1]; rfl, h2⟩
    unfold splitPick at h
    split at h
    · rename_i d' x y ho
      split at h
      · rename_i hb
        obtain rfl := Nat.eq_of_beq_eq_true hb
        simp only [Option.some.injEq, Prod.mk.injEq] at h
        obtain ⟨rfl, rfl, rfl⟩ := h
        exact ⟨rfl, x, y, ho⟩
      · split at h
        · rename_i l p q hq
          exact tail hq (Option.some.inj h)
        · cases h
    · split at h
      · rename_i l p q hq
        exact tail hq (Option.some.inj h)
      · cases h
theorem groupOf_eq {o : Oper} {idx : Nat} {l body rest : List Oper} {d : Nat} {w : Bool} {pk : Oper} (h : groupOf o idx l = some (d, w, body, pk, rest)) : o.dst = some d ∧ l = body ++ pk :: rest ∧ ∃ x y, pk.op = .pick (.tmp d) x y := by
  unfold groupOf at h
  split at h
  · cases h
  · split at h
    · rename_i j w' d' hg hd
      split at h
      · split at h
        · rename_i l' p q hq
          simp only [Option.some.injEq, Prod.mk.injEq] at h
          obtain ⟨rfl, rfl, rfl, rfl, rfl⟩ := h
          exact ⟨hd, splitPick_eq hq⟩
        · cases h
      · cases h
    · cases h
/-- Guarded operations that are left out. -/
theorem skip_ok {ev : Ev E} {all : List Oper} (wk : Walk P E ev N Bs F0 w0 all) {idx d : Nat} {wt c : Bool} {J : Act → World → Prop} (hc : c ≠ wt) {os : Oper} (h1 : all[idx]? = some os) (h2 : os.dst = some d) : ∀ (l tl : List Oper) (i : Nat) (a : Act) (w : World), all.drop i = l ++ tl → idx < i → skipB idx d wt l i = true →
    a.tmps[d]? = some (.bool c) → (∀ j, idx < j → j < i → yielded all.toArray a.tmps j = none) →
    (∀ a', a'.tmps.size = a.tmps.size → a'.defers = a.defers → (∀ t, memN t (dsts l) = false → a'.tmps[t]? = a.tmps[t]?) → J a' w) → wk.W J l i a w
  | [], tl, i, a, w, _, _, _, _, _, hJ => wk.nil (hJ a rfl rfl fun _ _ => rfl)
  | o :: l, tl, i, a, w, hd, hi, hs, hcd, hoff, hJ => by
    have ho : all[i]? = some o := by
      have : (all.drop i)[0]? = some o := by rw [hd]; rfl
      rw [List.getElem?_drop] at this
      simpa using this
    simp only [skipB, Bool.and_eq_true] at hs
    obtain ⟨hs1, hs2⟩ := hs
    split at hs1
    · rename_i j w' d' hg hdst
      simp only [Bool.and_eq_true, Bool.or_eq_true, Bool.not_eq_true'] at hs1
      obtain ⟨hs3, hs4⟩ := hs1
      have hne : d ≠ d' := beq_false hs4
      have hnw : Region.wanted o (yielded all.toArray a.tmps) = false := by
        unfold Region.wanted
        rw [hg]
        simp only
        rcases hs3 with ⟨e1, e2⟩ | ⟨e1, e2⟩
        · obtain rfl := Nat.eq_of_beq_eq_true e1
          have hww : wt = w' := by cases wt <;> cases w' <;> simp_all
          subst hww
          rw [yielded_at h1 h2 hcd]
          cases c <;> cases wt <;> simp_all
        · have e1' : idx < j := by simpa using e1
          have e2' : j < i := by simpa using e2
          rw [hoff j e1' e2']
          rfl
      refine wk.skip ho hnw ?_
      rw [hdst]
      refine skip_ok wk hc h1 h2 l tl (i + 1) _ w ?_ (by omega) hs2 ?_ (fun j hj1 hj2 => ?_) fun a' e1 e2 e3 => hJ a' ?_ ?_ fun t ht => ?_
      · have := congrArg (List.drop 1) hd
        rw [List.drop_drop] at this
        simpa [Nat.add_comm] using this
      · simp only [Act.put]
        rw [Array.getElem?_setIfInBounds_ne (Ne.symm hne)]
        exact hcd
      · unfold yielded
        by_cases hji : j = i
        · subst hji
          simp only [List.getElem?_toArray, ho, Option.bind_some, hdst, Act.put]
          rw [Array.getElem?_setIfInBounds]
          split
          · rename_i h
            split at h
            · split at h
              · obtain h := Option.some.inj h; simp [undef] at h
              · cases h
            · rename_i hx; exact absurd rfl hx
          · rfl
        · have hj3 := hoff j hj1 (by omega)
          unfold yielded at hj3
          simp only [List.getElem?_toArray] at hj3 ⊢
          cases hoj : (all[j]?).bind (·.dst) with
          | none => rfl
          | some dj =>
            rw [hoj] at hj3
            simp only [Option.bind_some] at hj3 ⊢
            simp only [Act.put, Array.getElem?_setIfInBounds]
            by_cases hdd : d' = dj
            · rw [if_pos hdd]
              split
              · rename_i h
                split at h
                · obtain h := Option.some.inj h; simp [undef] at h
                · cases h
              · rfl
            · rw [if_neg hdd]
              exact hj3
      · rw [e1]; simp [Act.put]
      · rw [e2]; simp [Act.put]
      · simp only [dsts, hdst, memN] at ht
        split at ht
        · cases ht
        · rename_i hb
          rw [e3 t ht]
          simp only [Act.put]
          rw [Array.getElem?_setIfInBounds_ne (Ne.symm (beq_false hb))]
    · cases hs1
end Rt
end Go
