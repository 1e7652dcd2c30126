/-
  The second engine, twelfth text: memory ahead of a call and behind it. No program in sight.
-/
import Derived.Test.YtboplmpnjepdnaaGreatRk
namespace Go
namespace Rt
open Go.RowKit

section
variable {P : Program} {E : TE} {z z' : Fz} {g g' : Ga} {nx : Nat} {w w' w0 : World} {H H' : Nat → Option (Obj E)} {Bs : List Nat} {F0 : Nat → Prop}
theorem mem_off {I l m : List Nat} {n : Nat} (h : ∀ j id, (l ++ m)[j]? = some id → I[n + j]? = some id) : (∀ j id, l[j]? = some id → I[n + j]? = some id) ∧ ∀ j id, m[j]? = some id → I[n + l.length + j]? = some id := by
  refine ⟨fun j id hj => h j id ?_, fun j id hj => ?_⟩
  · rw [List.getElem?_append_left (List.getElem?_eq_some_iff.1 hj).1]; exact hj
  · rw [Nat.add_assoc]
    refine h _ id ?_
    rw [List.getElem?_append_right (by omega)]
    rw [show l.length + j - l.length = j by omega]
    exact hj
theorem takeA_ok {tab : Tab E} (ht : tab.OK P E) (hH : HR P E Bs F0 w0 w z g H) {I : List Nat} : ∀ {ps : List Pm} {xs : List (V1 E)} {q : PA E ps × List Nat} {vs : List Value} {n : Nat}, takeA E tab H ps xs = some q → (∀ j id, q.2[j]? = some id → I[n + j]? = some id) →
    All2 (R1 P E z g) xs vs → (∃ svs, argsV E ps q.1 n = some svs ∧ All2 (R1 P E z (gOf g I)) svs vs) ∧ (∀ i o, (i, o) ∈ argsO E ps q.1 n → ∃ id o1 o2, I[i]? = some id ∧ H id = some o1 ∧ o = some o2 ∧ Cor E H o1 o2) ∧ q.2.length = cntA E ps := by
  intro ps
  induction ps with
  | nil =>
    intro xs q vs n h hI hv
    cases xs with
    | nil =>
      simp only [takeA, Option.some.injEq] at h
      subst h
      cases hv
      exact ⟨⟨[], rfl, .nil⟩, fun i o ho => by simp [argsO] at ho, rfl⟩
    | cons x xs => simp [takeA] at h
  | cons p ps ih =>
    intro xs q vs n h hI hv
    cases xs with
    | nil => cases p <;> simp [takeA] at h
    | cons x xs =>
      cases hv with
      | @cons _ v _ vs' h1 h2 =>
        cases p with
        | d t =>
          simp only [takeA] at h
          split at h
          · rename_i d q' hd hq
            obtain rfl := Option.some.inj h
            obtain ⟨⟨svs, e1, e2⟩, e3, e4⟩ := ih hq hI h2
            obtain ⟨y, e5, e6⟩ := takeD_ok hH hd h1 (gOf g I)
            exact ⟨⟨y :: svs, by simp only [argsV, e1, e5], .cons e6 e2⟩, e3, e4⟩
          · cases h
        | l t m =>
          simp only [takeA] at h
          split at h
          · rename_i d q' hf hd hq
            obtain rfl := Option.some.inj h
            obtain ⟨i1, i2⟩ := mem_off hI
            obtain ⟨e7, e8⟩ := ownO_cor hd i1
            obtain ⟨⟨svs, e1, e2⟩, e3, e4⟩ := ih hq i2 h2
            rw [e8] at e1 e3
            have hcs : ∀ vs, All2 (RC P E z g) x.cs vs → _ := fun vs hvs => takeM_val hH hd i1 hvs
            obtain ⟨y, e5, e6⟩ := asV_ok (z' := z) (g' := gOf g I) (l := ownC E m (E.flat t) d.1 n) hf (by
              have : ∃ vs, All2 (RC P E z g) x.cs vs := by
                cases x with
                | one c => exact ⟨[v], .cons h1 .nil⟩
                | agg l => obtain ⟨vs, _, h⟩ := h1; exact ⟨vs, h⟩
              obtain ⟨vs, hvs⟩ := this
              rw [(hcs vs hvs).2.1, (hcs vs hvs).2.2]) h1 fun vs hvs => (hcs vs hvs).1
            refine ⟨⟨y :: svs, by simp only [argsV, e1, E.fl_ufl, e5], .cons e6 e2⟩, fun i o ho => ?_, by simp only [List.length_append, e8, e4]; rfl⟩
            simp only [argsO, List.mem_append, E.fl_ufl] at ho
            rcases ho with ho | ho
            · exact e7 i o ho
            · exact e3 i o ho
          · cases h
        | g t m =>
          simp only [takeA] at h
          split at h
          · rename_i d q' hf hd hq
            obtain rfl := Option.some.inj h
            obtain ⟨i1, i2⟩ := mem_off hI
            obtain ⟨e7, e8⟩ := ownO_cor hd i1
            obtain ⟨⟨svs, e1, e2⟩, e3, e4⟩ := ih hq i2 h2
            rw [e8] at e1 e3
            have hcs : ∀ vs, All2 (RC P E z g) x.cs vs → _ := fun vs hvs => takeM_val hH hd i1 hvs
            obtain ⟨y, e5, e6⟩ := asV_ok (z' := z) (g' := gOf g I) (l := ownC E m (E.flat t) d.1 n) hf (by
              have : ∃ vs, All2 (RC P E z g) x.cs vs := by
                cases x with
                | one c => exact ⟨[v], .cons h1 .nil⟩
                | agg l => obtain ⟨vs, _, h⟩ := h1; exact ⟨vs, h⟩
              obtain ⟨vs, hvs⟩ := this
              rw [(hcs vs hvs).2.1, (hcs vs hvs).2.2]) h1 fun vs hvs => (hcs vs hvs).1
            refine ⟨⟨y :: svs, by simp only [argsV, e1, E.fl_ufl, e5], .cons e6 e2⟩, fun i o ho => ?_, by simp only [List.length_append, e8, e4]; rfl⟩
            simp only [argsO, List.mem_append, E.fl_ufl] at ho
            rcases ho with ho | ho
            · exact e7 i o ho
            · exact e3 i o ho
          · cases h
        | b T t =>
          cases x with
          | agg l => simp [takeA] at h
          | one c =>
          cases c with
          | ptr id off =>
            cases off with
            | succ off => simp [takeA] at h
            | zero =>
            simp only [takeA] at h
            split at h
            · rename_i T' cs q' hi hq
              split at h
              · rename_i hd hb hh
                obtain rfl := Option.some.inj h
                obtain rfl := Nat.eq_of_beq_eq_true hb
                obtain ⟨⟨svs, e1, e2⟩, e3, e4⟩ := ih (n := n + 1) hq (fun j id' hj => by
                  have := hI (j + 1) id' (by simpa using hj)
                  rwa [show n + 1 + j = n + (j + 1) by omega]) h2
                have h0 : I[n]? = some id := by simpa using hI 0 id (by simp)
                obtain ⟨l, h6, h7⟩ := h1
                refine ⟨⟨.one (.ptr n 0) :: svs, by simp only [argsV, e1], .cons ⟨l, by unfold gOf; rw [h0]; exact h6, h7⟩ e2⟩, fun i o ho => ?_, by simp only [List.length_cons, e4, cntA]; omega⟩
                simp only [argsO, List.mem_cons, Prod.mk.injEq] at ho
                rcases ho with ⟨rfl, rfl⟩ | ho
                · exact ⟨id, _, _, h0, hi, rfl, t, hd, hh, rfl⟩
                · exact e3 i o ho
              · cases h
            · cases h
          | _ => simp [takeA] at h
        | mp T k v =>
          cases x with
          | agg l => simp [takeA] at h
          | one c =>
          cases c with
          | mp id =>
            simp only [takeA] at h
            split at h
            · rename_i T' k' v' ks vs foc q' hi hq
              split at h
              · rename_i ht
                obtain ⟨rfl, rfl⟩ := ht
                split at h
                · rename_i hb
                  obtain rfl := Option.some.inj h
                  obtain rfl := Nat.eq_of_beq_eq_true hb
                  obtain ⟨⟨svs, e1, e2⟩, e3, e4⟩ := ih (n := n + 1) hq (fun j id' hj => by
                    have := hI (j + 1) id' (by simpa using hj)
                    rwa [show n + 1 + j = n + (j + 1) by omega]) h2
                  have h0 : I[n]? = some id := by simpa using hI 0 id (by simp)
                  obtain ⟨l, h6, h7⟩ := h1
                  refine ⟨⟨.one (.mp n) :: svs, by simp only [argsV, e1], .cons ⟨l, by unfold gOf; rw [h0]; exact h6, h7⟩ e2⟩, fun i o ho => ?_, by simp only [List.length_cons, e4, cntA]; omega⟩
                  simp only [argsO, List.mem_cons, Prod.mk.injEq] at ho
                  rcases ho with ⟨rfl, rfl⟩ | ho
                  · exact ⟨id, _, _, h0, hi, rfl, rfl⟩
                  · exact e3 i o ho
                · cases h
              · cases h
            · cases h
          | _ => simp [takeA] at h
        | p t =>
          cases x with
          | agg l => simp [takeA] at h
          | one c =>
          cases c with
          | elf t' x' off =>
            cases off with
            | succ off => simp [takeA] at h
            | zero =>
            simp only [takeA] at h
            split at h
            · rename_i htt
              subst htt
              split at h
              · rename_i q' hq
                obtain rfl := Option.some.inj h
                obtain ⟨⟨svs, e1, e2⟩, e3, e4⟩ := ih hq hI h2
                exact ⟨⟨.one (.elf t' x' 0) :: svs, by simp only [argsV, e1], .cons h1 e2⟩, e3, e4⟩
              · cases h
            · cases h
          | ptr id off =>
            cases off with
            | succ off => simp [takeA] at h
            | zero =>
            simp only [takeA] at h
            split at h
            · rename_i t' x' hi
              split at h
              · rename_i htt
                subst htt
                split at h
                · rename_i q' hq
                  obtain rfl := Option.some.inj h
                  obtain ⟨⟨svs, e1, e2⟩, e3, e4⟩ := ih hq hI h2
                  obtain ⟨l, h7, rfl⟩ := h1
                  obtain ⟨l', r, h8, h9, h10, h11⟩ := hH.hold _ _ hi
                  rw [h7] at h8; obtain rfl := Option.some.inj h8
                  exact ⟨⟨.one (.elf t' x' 0) :: svs, by simp only [argsV, e1], .cons ⟨l.b, 0, r, rfl, h9, h10, fun j u hj => by rw [Nat.zero_add]; exact h11 j u hj⟩ e2⟩, e3, e4⟩
                · cases h
              · cases h
            · cases h
          | _ => simp [takeA] at h
        | f1 a r =>
          cases x with
          | agg l => simp [takeA] at h
          | one c =>
            simp only [takeA] at h
            split at h
            · rename_i f q' hf hq
              obtain rfl := Option.some.inj h
              obtain ⟨⟨svs, e1, e2⟩, e3, e4⟩ := ih hq hI h2
              exact ⟨⟨.one (.fn1 a r f) :: svs, by simp only [argsV, e1], .cons (takeF1_ok ht hH hf h1) e2⟩, e3, e4⟩
            · cases h
        | f2 a c r =>
          cases x with
          | agg l => simp [takeA] at h
          | one c =>
            simp only [takeA] at h
            split at h
            · rename_i f q' hf hq
              obtain rfl := Option.some.inj h
              obtain ⟨⟨svs, e1, e2⟩, e3, e4⟩ := ih hq hI h2
              exact ⟨⟨.one (.fn2 a _ r f) :: svs, by simp only [argsV, e1], .cons (takeF2_ok ht hH hf h1) e2⟩, e3, e4⟩
            · cases h
/-! ### Memory on the way in -/
theorem upH_mem {i : Nat} {o : Obj E} : ∀ {l : Chs E}, upH (fun _ => none) l i = some o → (i, some o) ∈ l
  | [], h => by cases h
  | (j, p) :: l, h => by
    simp only [upH] at h
    split at h
    · rename_i hb
      obtain rfl := Nat.eq_of_beq_eq_true hb
      subst h
      exact List.mem_cons_self ..
    · exact List.mem_cons_of_mem _ (upH_mem h)
/-- The blocks of an object. -/
def blk (H : Nat → Option (Obj E)) (g : Ga) (id : Nat) : List Nat := match H id, g id with
  | some (.row ..), some l => match l.A with
    | some a => [a.block]
    | none => []
  | some (.box ..), some l => [l.b]
  | some (.map ..), some l => [l.b]
  | _, _ => []
theorem mem_blk {id k : Nat} : k ∈ blk H g id ↔ ∃ o, H id = some o ∧ fpO g id o k := by
  unfold blk
  cases hi : H id with
  | none => simp
  | some o =>
    cases hg : g id with
    | none => cases o <;> simp [fpO, hg]
    | some l =>
      cases o with
      | box T cs => simp [fpO, hg]
      | row e t xs foc =>
        cases hA : l.A with
        | none => simp [fpO, hg, hA]
        | some a => simp [fpO, hg, hA]
      | fr t xs => simp [fpO]
      | fb t x => simp [fpO]
      | map T k v ks vs foc => simp [fpO, hg]
theorem nodup_get {I : List Nat} (h : nodupB I = true) : ∀ {i j id : Nat}, I[i]? = some id → I[j]? = some id → i = j := by
  induction I with
  | nil => intro i j id h; simp at h
  | cons x I ih =>
    intro i j id hi hj
    simp only [nodupB, Bool.and_eq_true, Bool.not_eq_true'] at h
    have hx : ∀ k, I[k]? = some x → False := fun k hk => by
      have := List.mem_of_getElem? hk
      have h1 := h.1
      simp at h1
      exact h1 this
    cases i with
    | zero =>
      cases j with
      | zero => rfl
      | succ j => simp at hi hj; subst hi; exact (hx j hj).elim
    | succ i =>
      cases j with
      | zero => simp at hi hj; subst hj; exact (hx i hi).elim
      | succ j => simp at hi hj; rw [ih h.2 hi hj]
theorem Cor.obj {I : List Nat} {i id : Nat} {o1 o2 : Obj E} (hH : HR P E Bs F0 w0 w z g H) (hc : Cor E H o1 o2) (hi : I[i]? = some id) (h : ObjR P E z g w id o1) : ObjR P E z (gOf g I) w i o2 ∧ ∀ k, fpO (gOf g I) i o2 k ↔ fpO g id o1 k := by
  have hg : gOf g I i = g id := by unfold gOf; rw [hi]
  cases o1 with
  | row e t xs foc =>
    simp only [Cor] at hc
    subst hc
    obtain ⟨l, rows, h1, hn, hcc, h2, h3, h4, h5, _⟩ := h
    refine ⟨⟨l, rows, by rw [hg]; exact h1, hn, hcc, h2, h3, h4, h5, fun p hp => nomatch hp⟩, fun k => ?_⟩
    simp only [fpO, hg]
  | box T cs =>
    obtain ⟨t, hd, hh, rfl⟩ := hc
    obtain ⟨l, vs, h1, h2, h3⟩ := h
    refine ⟨⟨l, vs, by rw [hg]; exact h1, h2, ?_⟩, fun k => ?_⟩
    · refine cells_rd.1 ?_
      rw [E.fl_ufl]
      exact dataL_ok hH hh h3
    · simp only [fpO, hg]
  | fr t xs => exact hc.elim
  | fb t x => exact hc.elim
  | map T k v ks vs foc =>
    obtain rfl : o2 = .map T k v ks vs [] := hc
    obtain ⟨l, es, c, h1, h2, h3, _⟩ := h
    exact ⟨⟨l, es, c, by rw [hg]; exact h1, h2, h3, fun p hp => nomatch hp⟩, fun k => by simp only [fpO, hg]⟩
theorem HR.entry (hH : HR P E Bs F0 w0 w z g H) {I : List Nat} (hn : nodupB I = true) {l : Chs E} (hl : ∀ i o, (i, o) ∈ l → ∃ id o1 o2, I[i]? = some id ∧ H id = some o1 ∧ o = some o2 ∧ Cor E H o1 o2) :
    HR P E (I.map (blk H g)).flatten z.F w w z (gOf g I) (upH (fun _ => none) l) := by
  have key : ∀ i o, upH (fun _ => none) l i = some o → ∃ id o1, I[i]? = some id ∧ H id = some o1 ∧ ObjR P E z (gOf g I) w i o ∧ ∀ k, fpO (gOf g I) i o k ↔ fpO g id o1 k := fun i o h => by
    obtain ⟨id, o1, o2, h1, h2, h3, h4⟩ := hl i _ (upH_mem h)
    obtain rfl := Option.some.inj h3
    obtain ⟨h5, h6⟩ := h4.obj hH h1 (hH.hold _ _ h2)
    exact ⟨id, o1, h1, h2, h5, h6⟩
  refine ⟨Chg.of_below (Below.refl _ _), fun i o h => ?_, fun i o k h hk => ?_, fun i j o p k hij h h' hk hk' => ?_, hH.fz, fun k hk => .inl hk, fun i o k h hk hz => ?_⟩
  · obtain ⟨_, _, _, _, h5, _⟩ := key i o h; exact h5
  · obtain ⟨id, o1, h1, h2, _, h6⟩ := key i o h
    right
    refine List.mem_flatten.2 ⟨blk H g id, List.mem_map.2 ⟨id, List.mem_of_getElem? h1, rfl⟩, ?_⟩
    exact mem_blk.2 ⟨o1, h2, (h6 k).1 hk⟩
  · obtain ⟨id, o1, h1, h2, _, h6⟩ := key i o h
    obtain ⟨id', o1', h1', h2', _, h6'⟩ := key j p h'
    refine hH.apart id id' o1 o1' k (fun e => ?_) h2 h2' ((h6 k).1 hk) ((h6' k).1 hk')
    subst e
    exact hij (nodup_get hn h1 h1')
  · obtain ⟨id, o1, h1, h2, _, h6⟩ := key i o h
    exact hH.fza id o1 k h2 ((h6 k).1 hk) hz
theorem mem_blks {I : List Nat} {k : Nat} (h : k ∈ (I.map (blk H g)).flatten) : ∃ (i id : Nat) (o : Obj E), I[i]? = some id ∧ H id = some o ∧ fpO g id o k := by
  obtain ⟨l, hl, hk⟩ := List.mem_flatten.1 h
  obtain ⟨id, hid, rfl⟩ := List.mem_map.1 hl
  obtain ⟨i, hi⟩ := List.mem_iff_getElem?.1 hid
  obtain ⟨o, h1, h2⟩ := mem_blk.1 hk
  exact ⟨i, id, o, hi, h1, h2⟩
/-! ### Memory on the way out -/
theorem HR.back {zb z2 : Fz} {g1 g2 : Ga} {Hb H1 H2 : Nat → Option (Obj E)} {Bs1 : List Nat} {Fe : Nat → Prop} {I : List Nat} {s : Nat → Nat → Prop} (hb : HR P E Bs F0 w0 w zb g Hb) (hx : HR P E Bs1 Fe w w' z' g1 H1)
    (hB : ∀ k, k ∈ Bs1 → ∃ id o, id ∈ I ∧ Hb id = some o ∧ fpO g id o k) (hg : g.Le g2)
    (hH : ∀ j o, H2 j = some o → (∃ i, s j i ∧ H1 i = some o) ∨ (j ∉ I ∧ Hb j = some o)) (hs : ∀ j j' i, s j i → s j' i → j = j')
    (hT : ∀ j i o, s j i → H1 i = some o → ObjR P E z2 g2 w' j o ∧ ∀ k, fpO g2 j o k ↔ fpO g1 i o k)
    (hz : zb.Le z2) (hz2 : z2.In w') (hzn : ∀ k, z2.F k → zb.F k ∨ ((w.heap.size ≤ k ∨ k ∈ Bs1) ∧ z'.F k)) : HR P E Bs F0 w0 w' z2 g2 H2 := by
  have hlt : ∀ j o k, Hb j = some o → fpO g j o k → k < w.heap.size := fun j o k h hk => (hb.hold j o h).lt hk
  have hfar : ∀ j o k, j ∉ I → Hb j = some o → fpO g j o k → k ∉ Bs1 := fun j o k hj h hk hkB => by
    obtain ⟨id, o', h1, h2, h3⟩ := hB k hkB
    exact hb.apart j id o o' k (fun e => hj (e ▸ h1)) h h2 hk h3
  have hle : ∀ j o k, Hb j = some o → (fpO g2 j o k ↔ fpO g j o k) := fun j o k h => fpO_le (hb.hold j o h).loc hg
  have new : ∀ j i o k, s j i → H1 i = some o → fpO g2 j o k → w.heap.size ≤ k ∨ k ∈ Bs1 := fun j i o k h1 h2 h3 => hx.own i o k h2 (((hT j i o h1 h2).2 k).1 h3)
  refine ⟨⟨hb.chg.grow.trans hx.chg.grow, fun k hk hn => ?_⟩, fun j o h => ?_, fun j o k h hk => ?_, fun j j' o p k hj h h' hk hk' => ?_, hz2, fun k hk => ?_, fun j o k h hk hzk => ?_⟩
  · rw [hx.chg.block k (Nat.lt_of_lt_of_le hk hb.size) fun hkB => ?_]
    · exact hb.chg.block k hk hn
    · obtain ⟨id, o', h1, h2, h3⟩ := hB k hkB
      rcases hb.own id o' k h2 h3 with h4 | h4
      · omega
      · exact hn h4
  · rcases hH j o h with ⟨i, h1, h2⟩ | ⟨h1, h2⟩
    · exact (hT j i o h1 h2).1
    · exact (hb.hold j o h2).keep hz hg fun k hk => hx.chg.block k (hlt j o k h2 hk) (hfar j o k h1 h2 hk)
  · rcases hH j o h with ⟨i, h1, h2⟩ | ⟨h1, h2⟩
    · rcases new j i o k h1 h2 hk with h3 | h3
      · exact .inl (Nat.le_trans hb.size h3)
      · obtain ⟨id, o', h4, h5, h6⟩ := hB k h3
        exact hb.own id o' k h5 h6
    · exact hb.own j o k h2 ((hle j o k h2).1 hk)
  · rcases hH j o h with ⟨i, h1, h2⟩ | ⟨h1, h2⟩ <;> rcases hH j' p h' with ⟨i', h1', h2'⟩ | ⟨h1', h2'⟩
    · refine hx.apart i i' o p k (fun e => hj (hs j j' i h1 (e ▸ h1'))) h2 h2' (((hT j i o h1 h2).2 k).1 hk) (((hT j' i' p h1' h2').2 k).1 hk')
    · have hk' := (hle j' p k h2').1 hk'
      rcases new j i o k h1 h2 hk with h3 | h3
      · have := hlt j' p k h2' hk'; omega
      · exact hfar j' p k h1' h2' hk' h3
    · have hk := (hle j o k h2).1 hk
      rcases new j' i' p k h1' h2' hk' with h3 | h3
      · have := hlt j o k h2 hk; omega
      · exact hfar j o k h1 h2 hk h3
    · exact hb.apart j j' o p k hj h2 h2' ((hle j o k h2).1 hk) ((hle j' p k h2').1 hk')
  · rcases hzn k hk with h1 | ⟨h1 | h1, _⟩
    · exact hb.fz0 k h1
    · exact .inr (.inl (Nat.le_trans hb.size h1))
    · obtain ⟨id, o', _, h5, h6⟩ := hB k h1
      exact .inr (hb.own id o' k h5 h6)
  · rcases hH j o h with ⟨i, h1, h2⟩ | ⟨h1, h2⟩
    · rcases hzn k hzk with h3 | ⟨_, h3⟩
      · rcases new j i o k h1 h2 hk with h4 | h4
        · have := (hb.fz k h3).1; omega
        · obtain ⟨id, o', _, h6, h7⟩ := hB k h4
          exact hb.fza id o' k h6 h7 h3
      · exact hx.fza i o k h2 (((hT j i o h1 h2).2 k).1 hk) h3
    · have hk := (hle j o k h2).1 hk
      rcases hzn k hzk with h3 | ⟨h3 | h3, _⟩
      · exact hb.fza j o k h2 hk h3
      · have := hlt j o k h2 hk; omega
      · exact hfar j o k h1 h2 hk h3
end
end Rt
end Go
