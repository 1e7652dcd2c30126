/-
  The second engine: a meeting, as a whole. No program in sight.
-/
import Derived.Test.YtboplmpnjepdnaaGreatSd
namespace Go
namespace Rt
open Go.RowKit

section
variable {P : Program} {E : TE} {w w0 : World} {Bs : List Nat} {F0 : Org} {N : Nat}
theorem aget_mem {α : Type} {t : Nat} {v : α} : ∀ {l : List (Nat × α)}, aget t l = some v → (t, v) ∈ l
  | [], h => by cases h
  | (u, x) :: l, h => by
    simp only [aget] at h
    split at h
    · rename_i hb
      obtain rfl := Nat.eq_of_beq_eq_true hb
      obtain rfl := Option.some.inj h
      exact List.mem_cons_self ..
    · exact List.mem_cons_of_mem _ (aget_mem h)
theorem aget_filt {α : Type} {t : Nat} {K : List Nat} : ∀ {l : List (Nat × α)}, aget t (filtK K l) = match memN t K with | true => aget t l | false => none
  | [] => by cases memN t K <;> rfl
  | (u, x) :: l => by
    have ih := aget_filt (t := t) (K := K) (l := l)
    unfold filtK at ih ⊢
    simp only [List.filter_cons]
    cases hb : Nat.beq t u with
    | true =>
      obtain rfl := Nat.eq_of_beq_eq_true hb
      cases hm : memN t K with
      | true =>
        simp only [if_true, aget]
        have : Nat.beq t t = true := by simp
        rw [this]
      | false =>
        rw [hm] at ih
        simp only [Bool.false_eq_true, if_false]
        exact ih
    | false =>
      have : aget t ((u, x) :: l) = aget t l := by simp only [aget, hb]
      rw [this]
      split
      · simp only [aget, hb]
        exact ih
      · exact ih
theorem seen_filter {K : List Nat} {vis : Option (List Nat)} {t : Nat} : seen (some (K.filter (seen vis))) t = (memN t K && seen vis t) := by
  show memN t (K.filter (seen vis)) = _
  induction K with
  | nil => rfl
  | cons u K ih =>
    simp only [List.filter_cons, memN]
    cases hb : Nat.beq t u with
    | true =>
      obtain rfl := Nat.eq_of_beq_eq_true hb
      cases hs : seen vis t with
      | true => simp [memN]
      | false =>
        rw [hs, Bool.and_false] at ih
        simp [ih]
    | false =>
      cases hs : seen vis u with
      | true => simp [memN, hb, ih]
      | false => simp [ih]
/-- What stays of the slots. -/
theorem goS_L {j : JP} {b : Ba E} {s : St E} {env : List (Nat × Option (SV E))} {u : Chs E} {t : Nat} {x : SV E} (h : (j.goS s env u).L b t = some x) : aget t env = some (some x) ∨ (memN t j.keep = true ∧ s.L b t = some x) := by
  unfold JP.goS St.L at h
  simp only [aget_append, aget_filt, seen_filter] at h
  cases he : aget t env with
  | some v => rw [he] at h; simp only at h; subst h; exact .inl rfl
  | none =>
    rw [he] at h
    cases hm : memN t j.keep with
    | false => rw [hm] at h; simp at h
    | true =>
      rw [hm] at h
      refine .inr ⟨rfl, ?_⟩
      unfold St.L
      simpa using h
theorem goS_H {j : JP} {b : Ba E} {s : St E} {env : List (Nat × Option (SV E))} {u : Chs E} {i : Nat} {o : Obj E} (h : (j.goS s env u).H b i = some o) : (i, some o) ∈ u ∨ (memN i j.hkeep = true ∧ s.H b i = some o) := by
  unfold JP.goS St.H at h
  simp only [upH_get, aget_append, aget_filt, seen_filter] at h
  cases he : aget i u with
  | some v => rw [he] at h; simp only at h; subst h; exact .inl (aget_mem he)
  | none =>
    rw [he] at h
    cases hm : memN i j.hkeep with
    | false => rw [hm] at h; simp at h
    | true =>
      rw [hm] at h
      refine .inr ⟨rfl, ?_⟩
      unfold St.H
      rw [upH_get]
      simpa using h
theorem JP.mt_some {j : JP} {b : Ba E} {s0 : St E} {h : HL E.S j.T} (e : j.mt b s0 = some h) : ∃ s bs1 bs h1 h2, s = prepL b j.objs j.slots s0 ∧ bindS (s.L b) j.slots [] = some bs1 ∧ bindO (s.H b) j.objs bs1 = some bs ∧
    j.mtB b.lo s bs = true ∧ focOK (s.H b) bs j.keep j.gkeep j.objs = true ∧ leafS (s.L b) (s.H b) j.slots = some h1 ∧ leafOs (s.H b) bs j.objs = some h2 ∧ h = hap h1 h2 := by
  unfold JP.mt at e
  generalize hs : prepL b j.objs j.slots s0 = s at e
  simp only at e
  cases hb1 : bindS (s.L b) j.slots [] with
  | none => rw [hb1] at e; cases e
  | some bs1 =>
    rw [hb1] at e
    simp only at e
    cases hb2 : bindO (s.H b) j.objs bs1 with
    | none => rw [hb2] at e; cases e
    | some bs =>
      rw [hb2] at e
      obtain ⟨h1, h2⟩ := onlyIf_some e
      obtain ⟨a1, a2, h3, h4, h5⟩ := hapO_some h2
      simp only [Bool.and_eq_true] at h1
      exact ⟨s, bs1, bs, a1, a2, rfl, hb1, hb2, h1.1, h1.2, h3, h4, h5⟩
theorem noKey_aget {α : Type} {i : Nat} {l : List (Nat × α)} (h : noKey i l = true) : aget i l = none := by
  unfold noKey at h
  split at h
  · assumption
  · cases h
theorem bd_one {bs : Bd} (h : nodupB (bs.map (·.2)) = true) {i j id : Nat} (hi : aget i bs = some id) (hj : aget j bs = some id) : i = j := by
  obtain ⟨n, hn⟩ := List.getElem?_of_mem (aget_mem hi)
  obtain ⟨m, hm⟩ := List.getElem?_of_mem (aget_mem hj)
  have h1 : (bs.map (·.2))[n]? = some id := by rw [List.getElem?_map, hn]; rfl
  have h2 : (bs.map (·.2))[m]? = some id := by rw [List.getElem?_map, hm]; rfl
  have := nodup_get h h1 h2
  subst this
  rw [hn] at hm
  have := Option.some.inj hm
  exact congrArg Prod.fst this
/-- The new places. -/
def moved (g : Ga) (lo : Nat) (K : List Nat) (bs : Bd) : Ga := fun i => match memN i K || Nat.blt i lo with
  | true => g i
  | false => match aget i bs with
    | some id => g id
    | none => none
theorem JP.ok {j : JP} {b : Ba E} {s s0 : St E} {h : HL E.S j.T} {a : Act} {R : Type} {k : St E → Option R} {r : R} (hlo : Fresh F0.g b.lo) (hm : j.mt (s.base b) s0 = some h) (hR : Rel P E Bs F0 w0 N (s0.L (s.base b)) (s0.H (s.base b)) s0.nx a w) (hg : j.go b s h k = some r) :
    ∃ s', k s' = some r ∧ Rel P E Bs F0 w0 N (s'.L b) (s'.H b) s'.nx a w := by
  obtain ⟨s1, bs1, bs, h1, h2, hs1, hb1, hb2, hB, hfoc, hl1, hl2, rfl⟩ := JP.mt_some hm
  have hR1 := prepL_ok (objs := j.objs) (l := j.slots) hR
  rw [← hs1] at hR1
  obtain ⟨z, g, hE, hH, hf, hz0, hg0⟩ := hR1
  unfold JP.mtB at hB
  simp only [Bool.and_eq_true] at hB
  obtain ⟨⟨⟨hlx, hself⟩, hk1⟩, hk2, hnd, hd1, hd2, hn1, hn2⟩ := hB
  unfold JP.go at hg
  rw [hfst_hap] at hg
  cases hns : newS j.slots h1 with
  | none => rw [hns] at hg; cases hg
  | some env =>
    rw [hns] at hg
    simp only at hg
    obtain ⟨hgo, hg⟩ := onlyIf_some hg
    rw [hsnd_hap] at hg
    unfold JP.goB at hgo
    simp only [Bool.and_eq_true] at hgo
    obtain ⟨ho1, ho2⟩ := hgo
    -- the new places
    have keyIn : ∀ i id, aget i bs = some id → memN i (j.hkeep ++ j.gkeep) = false := fun i id e => disj_mem hd2 (List.mem_map.2 ⟨_, aget_mem e, rfl⟩)
    have hbound : Bound g (moved g b.lo (j.hkeep ++ j.gkeep) bs) bs := fun i id e => by
      unfold moved
      rw [keyIn i id e, Bool.false_or]
      split
      · rename_i hb
        have h9 := List.all_eq_true.1 hself _ (aget_mem e)
        simp only [Bool.or_eq_true] at h9
        rcases h9 with h9 | h9
        · have h10 := Nat.le_of_ble_eq_true h9
          have h11 : i < b.lo := by simpa using hb
          have : b.lo ≤ i := h10
          omega
        · rw [Nat.eq_of_beq_eq_true h9]
      · rw [e]
    have hkeepG : ∀ i, memN i (j.hkeep ++ j.gkeep) = true → moved g b.lo (j.hkeep ++ j.gkeep) bs i = g i := fun i e => by
      unfold moved
      rw [e, Bool.true_or]
    have hgk : ∀ i, memN i j.gkeep = true → moved g b.lo (j.hkeep ++ j.gkeep) bs i = g i := fun i e => hkeepG i (by rw [memN_append, e, Bool.or_true])
    have hhk : ∀ i, memN i j.hkeep = true → moved g b.lo (j.hkeep ++ j.gkeep) bs i = g i := fun i e => hkeepG i (by rw [memN_append, e, Bool.true_or])
    have hA : ∀ i, memN i (j.hkeep ++ (j.gkeep ++ selfs j.objs)) = true → moved g b.lo (j.hkeep ++ j.gkeep) bs i = g i := fun i e => by
      rw [memN_append, memN_append] at e
      simp only [Bool.or_eq_true] at e
      rcases e with e | e | e
      · exact hhk i e
      · exact hgk i e
      · exact hbound i i ((bindO_le hb2).2 i (memN_true.1 e))
    have keepL : ∀ t, memN t j.keep = true → s1.L (s.base b) t = s.L b t := fun t ht => by
      have := List.all_eq_true.1 hk1 t (memN_true.1 ht)
      simp only [Bool.and_eq_true] at this
      unfold St.L
      rw [noKey_aget this.1, this.2]
      rfl
    have keepH : ∀ i, memN i j.hkeep = true → s1.H (s.base b) i = s.H b i := fun i hi => by
      have := List.all_eq_true.1 hk2 i (memN_true.1 hi)
      simp only [Bool.and_eq_true] at this
      unfold St.H
      rw [upH_get, noKey_aget this.1, this.2]
      rfl
    obtain ⟨u, hu, hobj⟩ := objs_meet hH hbound hgk (L := s.L b) (keep := j.keep) (fun sl id q i off hsl hL => by
      rw [← keepL sl hsl] at hL
      obtain ⟨v, _, hv⟩ := hE.get sl _ hL
      obtain ⟨l, h3, h4, _⟩ := hv
      exact ⟨l, h3, h4⟩) j.objs bs1 bs h2 _ hb2 (Bd.Le.refl bs) hl2 hfoc hg
    refine ⟨_, hu, z, moved g b.lo (j.hkeep ++ j.gkeep) bs, ⟨hE.size, hE.defers, fun t x hx => ?_⟩, ?_, fun i hi => ?_, hz0, fun i l hl => ?_⟩
    · rcases goS_L hx with hx | ⟨hk, hx⟩
      · obtain ⟨sv, s2, h3, h4, h5⟩ := slots_meet hH hbound j.slots [] bs1 h1 env hb1 (bindO_le hb2).1 hl1 hns t _ hx
        obtain rfl := Option.some.inj h3
        obtain ⟨v, h6, h7⟩ := hE.get t _ h4
        exact ⟨v, h6, h5 v h7⟩
      · have hx' := hx
        rw [← keepL t hk] at hx'
        obtain ⟨v, h6, h7⟩ := hE.get t _ hx'
        have h8 := List.all_eq_true.1 ho1 t (memN_true.1 hk)
        rw [hx] at h8
        exact ⟨v, h6, h7.same hA h8⟩
    · refine hH.remap (fun i => match memN i j.hkeep with | true => i | false => (aget i bs).getD i) (fun i i' o o' e e' hff => ?_) fun i o' e => ?_
      · have kind : ∀ i o, (j.goS s env u).H b i = some o → memN i j.hkeep = true ∨ (memN i j.hkeep = false ∧ ∃ id, aget i bs = some id) := fun i o e => by
          rcases goS_H e with e | ⟨e, _⟩
          · obtain ⟨id, _, _, h3, _⟩ := hobj i _ e
            have := keyIn i id h3
            rw [memN_append, Bool.or_eq_false_iff] at this
            exact .inr ⟨this.1, id, h3⟩
          · exact .inl e
        have far : ∀ i id, aget i bs = some id → memN id j.hkeep = false := fun i id e => disj_mem hd1 (List.mem_map.2 ⟨_, aget_mem e, rfl⟩)
        rcases kind i o e with h3 | ⟨h3, id, h4⟩ <;> rcases kind i' o' e' with h3' | ⟨h3', id', h4'⟩
        · simpa [h3, h3'] using hff
        · simp only [h3, h3', h4', Option.getD_some] at hff
          subst hff
          rw [far i' _ h4'] at h3
          cases h3
        · simp only [h3, h3', h4, Option.getD_some] at hff
          subst hff
          rw [far i _ h4] at h3'
          cases h3'
        · simp only [h3, h3', h4, h4', Option.getD_some] at hff
          subst hff
          exact bd_one hnd h4 h4'
      · rcases goS_H e with e | ⟨hk, e⟩
        · obtain ⟨id, o, p, h3, h4, h5, h6, h7⟩ := hobj i _ e
          obtain rfl := Option.some.inj h5
          have := keyIn i id h3
          rw [memN_append, Bool.or_eq_false_iff] at this
          simp only [this.1, h3, Option.getD_some]
          exact ⟨o, h4, h6 (hH.hold _ _ h4), h7⟩
        · simp only [hk]
          have e2 := e
          rw [← keepH i hk] at e2
          have h8 := List.all_eq_true.1 ho2 i (memN_true.1 hk)
          rw [e] at h8
          exact ⟨o', e2, (hH.hold _ _ e2).same hA (hhk i hk) h8, fun q hq => (fpO_same (hhk i hk)).1 hq⟩
    · have hi' : j.nx ≤ i := hi
      unfold moved
      have hble : b.lo ≤ i := Nat.le_trans (Nat.le_of_ble_eq_true hlx) hi'
      have hblt : Nat.blt i b.lo = false := by
        cases hb : Nat.blt i b.lo with
        | false => rfl
        | true => have : i < b.lo := by simpa using hb
                  omega
      rw [hblt, Bool.or_false]
      cases hmem : memN i (j.hkeep ++ j.gkeep) with
      | true =>
        have := List.all_eq_true.1 hn2 i (memN_true.1 hmem)
        have : i < j.nx := by simpa using this
        omega
      | false =>
        cases hag : aget i bs with
        | none => rfl
        | some id =>
          have := List.all_eq_true.1 hn1 _ (aget_mem hag)
          have : i < j.nx := by simpa using this
          omega
    · have hblt : Nat.blt i b.lo = true := by
        rcases Nat.lt_or_ge i b.lo with h9 | h9
        · simpa using h9
        · rw [hlo i h9] at hl; cases hl
      unfold moved
      rw [hblt, Bool.or_true]
      exact hg0 i l hl
end
end Rt
end Go
