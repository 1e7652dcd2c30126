/-
  The second engine: what meets again is so: slots and memory under new numbers. No program in sight.
-/
import Derived.Test.YtboplmpnjepdnaaGreatSr
namespace Go
namespace Rt
open Go.RowKit

section
variable {P : Program} {E : TE} {z : Fz} {g g' : Ga} {w w0 : World} {Bs : List Nat} {F0 : Nat → Prop} {N : Nat}
/-! ### Memory under new numbers -/
theorem HR.remap {H H' : Nat → Option (Obj E)} (h : HR P E Bs F0 w0 w z g H) (f : Nat → Nat) (hf : ∀ i j o p, H' i = some o → H' j = some p → f i = f j → i = j)
    (ho : ∀ i o', H' i = some o' → ∃ o, H (f i) = some o ∧ ObjR P E z g' w i o' ∧ ∀ k, fpO g' i o' k → fpO g (f i) o k) : HR P E Bs F0 w0 w z g' H' := by
  refine ⟨h.chg, fun i o e => ?_, fun i o k e hk => ?_, fun i j o p k hn e e' hk hk' => ?_, h.fz, h.fz0, fun i o k e hk => ?_⟩
  · obtain ⟨_, _, h2, _⟩ := ho i o e; exact h2
  · obtain ⟨q, h1, _, h3⟩ := ho i o e; exact h.own _ q k h1 (h3 k hk)
  · obtain ⟨q, h1, _, h3⟩ := ho i o e
    obtain ⟨q', h1', _, h3'⟩ := ho j p e'
    exact h.apart _ _ q q' k (fun e2 => hn (hf i j o p e e' e2)) h1 h1' (h3 k hk) (h3' k hk')
  · obtain ⟨q, h1, _, h3⟩ := ho i o e; exact h.fza _ q k h1 (h3 k hk)
theorem subset_mem {l m : List Nat} (h : subset l m = true) {t : Nat} (ht : t ∈ l) : memN t m = true := by
  unfold subset at h
  exact List.all_eq_true.1 h t ht
theorem disj_mem {l m : List Nat} (h : disj l m = true) {t : Nat} (ht : t ∈ l) : memN t m = false := by
  unfold disj at h
  simpa using List.all_eq_true.1 h t ht
theorem memN_append {t : Nat} : ∀ {l m : List Nat}, memN t (l ++ m) = (memN t l || memN t m)
  | [], m => rfl
  | u :: l, m => by
    simp only [List.cons_append, memN]
    cases Nat.beq t u with
    | true => rfl
    | false => exact memN_append
theorem RC.same {A : List Nat} {c : SC E} {v : Value} (h : RC P E z g c v) (hA : ∀ i, memN i A = true → g' i = g i) (hc : c.okIds A = true) : RC P E z g' c v := by
  cases c with
  | dt t x => exact h
  | own id => obtain ⟨l, h1, h2⟩ := h; exact ⟨l, by rw [hA id hc]; exact h1, h2⟩
  | pre id n => obtain ⟨l, h1, h2⟩ := h; exact ⟨l, by rw [hA id hc]; exact h1, h2⟩
  | nils => exact h
  | ptr id off => obtain ⟨l, h1, h2⟩ := h; exact ⟨l, by rw [hA id hc]; exact h1, h2⟩
  | elo id q i off =>
    simp only [SC.okIds, Bool.and_eq_true] at hc
    obtain ⟨l, h1, h2⟩ := h; exact ⟨l, by rw [hA q hc.2]; exact h1, h2⟩
  | elf t x off => exact h
  | fn1 a r f => exact h
  | fn2 a b r f => exact h
  | clo f caps =>
    obtain ⟨us, h1, h2⟩ := h
    refine ⟨us, h1, ?_⟩
    have : ∀ {caps : List Nat} {us : List Value}, subset caps A = true → All2 (fun id u => ∃ l, g id = some l ∧ u = Value.pointer (some ⟨l.b, 0, none⟩)) caps us → All2 (fun id u => ∃ l, g' id = some l ∧ u = Value.pointer (some ⟨l.b, 0, none⟩)) caps us := by
      intro caps us hs hr
      induction hr with
      | nil => exact .nil
      | cons hx _ ih =>
        obtain ⟨l, h3, h4⟩ := hx
        exact .cons ⟨l, by rw [hA _ (subset_mem hs (List.mem_cons_self ..))]; exact h3, h4⟩ (ih (by unfold subset at hs ⊢; simp only [List.all_cons, Bool.and_eq_true] at hs; exact hs.2))
    exact this hc h2
  | mp id => obtain ⟨l, h1, h2⟩ := h; exact ⟨l, by rw [hA id hc]; exact h1, h2⟩
  | mst q => obtain ⟨l, h1, h2⟩ := h; exact ⟨l, by rw [hA q hc]; exact h1, h2⟩
theorem RCs.same {A : List Nat} (hA : ∀ i, memN i A = true → g' i = g i) {l : List (SC E)} {vs : List Value} (h : All2 (RC P E z g) l vs) : (l.all fun c => c.okIds A) = true → All2 (RC P E z g') l vs := by
  induction h with
  | nil => intro _; exact .nil
  | cons hx _ ih =>
    intro hc
    simp only [List.all_cons, Bool.and_eq_true] at hc
    exact .cons (hx.same hA hc.1) (ih hc.2)
theorem R1.same {A : List Nat} {x : V1 E} {v : Value} (h : R1 P E z g x v) (hA : ∀ i, memN i A = true → g' i = g i) (hc : x.okIds A = true) : R1 P E z g' x v := by
  cases x with
  | one c => exact RC.same h hA hc
  | agg l => obtain ⟨vs, h1, h2⟩ := h; exact ⟨vs, h1, RCs.same hA h2 hc⟩
theorem RV.same {A : List Nat} {x : SV E} {v : Value} (h : RV P E z g x v) (hA : ∀ i, memN i A = true → g' i = g i) (hc : x.okIds A = true) : RV P E z g' x v := by
  cases x with
  | v x => exact R1.same h hA hc
  | tup l =>
    obtain ⟨vs, h1, h2⟩ := h
    refine ⟨vs, h1, ?_⟩
    have : ∀ {l : List (V1 E)} {vs : List Value}, (l.all fun c => c.okIds A) = true → All2 (R1 P E z g) l vs → All2 (R1 P E z g') l vs := by
      intro l vs hs hr
      induction hr with
      | nil => exact .nil
      | cons hx _ ih =>
        simp only [List.all_cons, Bool.and_eq_true] at hs
        exact .cons (hx.same hA hs.1) (ih hs.2)
    exact this hc h2
theorem fpO_same {i i' : Nat} {o : Obj E} {k : Nat} (hg : g' i' = g i) : fpO g' i' o k ↔ fpO g i o k := by
  cases o <;> simp [fpO, hg]
theorem ObjR.same {A : List Nat} {i : Nat} {o : Obj E} (h : ObjR P E z g w i o) (hA : ∀ i, memN i A = true → g' i = g i) (hi : g' i = g i) (hc : o.okIds A = true) : ObjR P E z g' w i o := by
  cases o with
  | box T cs => obtain ⟨l, vs, h1, h2, h3⟩ := h; exact ⟨l, vs, by rw [hi]; exact h1, h2, RCs.same hA h3 hc⟩
  | row e t xs foc =>
    obtain ⟨l, rows, h1, h2, h3, h4, h5, h6, h7, h8⟩ := h
    refine ⟨l, rows, by rw [hi]; exact h1, h2, h3, h4, h5, h6, h7, fun p hp => ?_⟩
    obtain ⟨h9, lq, o, h10, h11⟩ := h8 p hp
    exact ⟨h9, lq, o, by rw [hA p.1 (List.all_eq_true.1 hc p hp)]; exact h10, h11⟩
  | fr t xs => obtain ⟨l, rows, h1, h2⟩ := h; exact ⟨l, rows, by rw [hi]; exact h1, h2⟩
  | fb t x => obtain ⟨l, r, h1, h2⟩ := h; exact ⟨l, r, by rw [hi]; exact h1, h2⟩
  | map T k v ks vs foc =>
    obtain ⟨l, es, c, h1, h2, h3, h4⟩ := h
    refine ⟨l, es, c, by rw [hi]; exact h1, h2, h3, fun p hp => ?_⟩
    obtain ⟨lq, i, e, h5, h6⟩ := h4 p hp
    exact ⟨lq, i, e, by rw [hA p.1 (List.all_eq_true.1 hc p hp)]; exact h5, h6⟩
/-! ### Numbers found -/
def Bd.Le (a b : Bd) : Prop := ∀ j id, aget j a = some id → aget j b = some id
theorem Bd.Le.refl (a : Bd) : Bd.Le a a := fun _ _ h => h
theorem Bd.Le.trans {a b c : Bd} (h : Bd.Le a b) (k : Bd.Le b c) : Bd.Le a c := fun j id e => k j id (h j id e)
theorem addB_ok {j id : Nat} {a b : Bd} (h : addB j id a = some b) : Bd.Le a b ∧ aget j b = some id := by
  unfold addB at h
  split at h
  · rename_i id' hg
    split at h
    · rename_i hb
      obtain rfl := Nat.eq_of_beq_eq_true hb
      obtain rfl := Option.some.inj h
      exact ⟨Bd.Le.refl _, hg⟩
    · cases h
  · rename_i hg
    obtain rfl := Option.some.inj h
    refine ⟨fun j' id' e => ?_, ?_⟩
    · simp only [aget]
      split
      · rename_i hb
        obtain rfl := Nat.eq_of_beq_eq_true hb
        rw [hg] at e; cases e
      · exact e
    · simp only [aget]
      have : Nat.beq j j = true := by simp
      rw [this]
/-- New numbers lie where the numbers found lie. -/
def Bound (g g' : Ga) (bs : Bd) : Prop := ∀ j id, aget j bs = some id → g' j = g id
theorem bindC_le : ∀ {ps : List CP} {cs : List (SC E)} {a b : Bd}, bindC ps cs a = some b → Bd.Le a b
  | [], cs, a, b, h => by
    cases cs with
    | nil => obtain rfl := Option.some.inj h; exact Bd.Le.refl _
    | cons c cs => simp [bindC] at h
  | p :: ps, cs, a, b, h => by
    unfold bindC at h
    split at h
    · rename_i hx; cases hx
    · rename_i hx; cases hx; exact bindC_le h
    · rename_i hx
      cases hx
      split at h
      · rename_i hb; exact (addB_ok hb).1.trans (bindC_le h)
      · cases h
    · rename_i hx
      cases hx
      split at h
      · rename_i hb; exact (addB_ok hb).1.trans (bindC_le h)
      · cases h
    · rename_i hx
      cases hx
      split at h
      · rename_i hb; exact (addB_ok hb).1.trans (bindC_le h)
      · cases h
    · cases h
theorem leafC_v {H : Nat → Option (Obj E)} {t : Ty} {ps : List CP} {c : SC E} {cs : List (SC E)} {h : HL E.S (cpT (.v t :: ps))} (e : leafC H (.v t :: ps) (c :: cs) = some h) : c.data H t = some h.1 ∧ leafC H ps cs = some h.2 :=
  pairO_some e
theorem leafC_own {H : Nat → Option (Obj E)} {j : Nat} {ps : List CP} {c : SC E} {cs : List (SC E)} {h : HL E.S (cpT ps)} (e : leafC H (.own j :: ps) (c :: cs) = some h) : leafC H ps cs = some h := e
theorem leafC_ptr {H : Nat → Option (Obj E)} {j : Nat} {ps : List CP} {c : SC E} {cs : List (SC E)} {h : HL E.S (cpT ps)} (e : leafC H (.ptr j :: ps) (c :: cs) = some h) : leafC H ps cs = some h := e
theorem bindC_own {j : Nat} {ps : List CP} {c : SC E} {cs : List (SC E)} {a b : Bd} (e : bindC (.own j :: ps) (c :: cs) a = some b) : ∃ id b1, c = .own id ∧ addB j id a = some b1 ∧ bindC ps cs b1 = some b := by
  cases c with
  | own id =>
    simp only [bindC] at e
    split at e
    · rename_i b1 hb; exact ⟨id, b1, rfl, hb, e⟩
    · cases e
  | _ => simp [bindC] at e
theorem bindC_ptr {j : Nat} {ps : List CP} {c : SC E} {cs : List (SC E)} {a b : Bd} (e : bindC (.ptr j :: ps) (c :: cs) a = some b) : ∃ id b1, c = .ptr id 0 ∧ addB j id a = some b1 ∧ bindC ps cs b1 = some b := by
  cases c with
  | ptr id off =>
    cases off with
    | zero =>
      simp only [bindC] at e
      split at e
      · rename_i b1 hb; exact ⟨id, b1, rfl, hb, e⟩
      · cases e
    | succ n => simp [bindC] at e
  | _ => simp [bindC] at e
theorem leafC_mp {H : Nat → Option (Obj E)} {j : Nat} {ps : List CP} {c : SC E} {cs : List (SC E)} {h : HL E.S (cpT ps)} (e : leafC H (.mp j :: ps) (c :: cs) = some h) : leafC H ps cs = some h := e
theorem bindC_mp {j : Nat} {ps : List CP} {c : SC E} {cs : List (SC E)} {a b : Bd} (e : bindC (.mp j :: ps) (c :: cs) a = some b) : ∃ id b1, c = .mp id ∧ addB j id a = some b1 ∧ bindC ps cs b1 = some b := by
  cases c with
  | mp id =>
    simp only [bindC] at e
    split at e
    · rename_i b1 hb; exact ⟨id, b1, rfl, hb, e⟩
    · cases e
  | _ => simp [bindC] at e
theorem bindC_v {t : Ty} {ps : List CP} {c : SC E} {cs : List (SC E)} {a b : Bd} (e : bindC (.v t :: ps) (c :: cs) a = some b) : bindC ps cs a = some b := e
theorem bindC_cons {p : CP} {ps : List CP} {cs : List (SC E)} {a b : Bd} (e : bindC (p :: ps) cs a = some b) : ∃ c cs', cs = c :: cs' := by
  cases cs with
  | nil => cases p <;> simp [bindC] at e
  | cons c cs => exact ⟨c, cs, rfl⟩
theorem cells_meet {H : Nat → Option (Obj E)} (hH : HR P E Bs F0 w0 w z g H) {bs : Bd} (hB : Bound g g' bs) : ∀ (ps : List CP) (cs : List (SC E)) (a b : Bd) (h : HL E.S (cpT ps)) (vs : List Value), bindC ps cs a = some b → Bd.Le b bs → leafC H ps cs = some h → All2 (RC P E z g) cs vs → All2 (RC P E z g') (newC ps h) vs := by
  intro ps
  induction ps with
  | nil =>
    intro cs a b h vs h1 _ _ h4
    cases cs with
    | nil => cases h4; exact .nil
    | cons c cs => simp [bindC] at h1
  | cons p ps ih =>
    intro cs a b h vs h1 h2 h3 h4
    obtain ⟨c, cs, rfl⟩ := bindC_cons h1
    obtain ⟨v, vs, rfl, hx, hr⟩ : ∃ v vs', vs = v :: vs' ∧ RC P E z g c v ∧ All2 (RC P E z g) cs vs' := by
      cases h4 with | cons hx hr => exact ⟨_, _, rfl, hx, hr⟩
    cases p with
    | v t =>
      obtain ⟨hd, hl⟩ := leafC_v h3
      have h5 := ih cs a b h.2 vs (bindC_v h1) h2 hl hr
      have h6 : RC P E z g' (.dt t h.1) v := SC.data_ok (w := w) hH hd hx
      show All2 _ (SC.dt t h.1 :: newC ps h.2) _
      exact All2.cons h6 h5
    | own j =>
      obtain ⟨id, b1, rfl, hb, h1⟩ := bindC_own h1
      have h5 := ih cs b1 b h vs h1 h2 (leafC_own h3) hr
      obtain ⟨l, h6, h7⟩ := hx
      have hg := hB j id (h2 _ _ (bindC_le h1 _ _ (addB_ok hb).2))
      have h8 : RC P E z g' (.own j) v := ⟨l, by rw [hg]; exact h6, h7⟩
      show All2 _ (SC.own j :: newC ps h) _
      exact All2.cons h8 h5
    | ptr j =>
      obtain ⟨id, b1, rfl, hb, h1⟩ := bindC_ptr h1
      have h5 := ih cs b1 b h vs h1 h2 (leafC_ptr h3) hr
      obtain ⟨l, h6, h7⟩ := hx
      have hg := hB j id (h2 _ _ (bindC_le h1 _ _ (addB_ok hb).2))
      have h8 : RC P E z g' (.ptr j 0) v := ⟨l, by rw [hg]; exact h6, h7⟩
      show All2 _ (SC.ptr j 0 :: newC ps h) _
      exact All2.cons h8 h5
    | mp j =>
      obtain ⟨id, b1, rfl, hb, h1⟩ := bindC_mp h1
      have h5 := ih cs b1 b h vs h1 h2 (leafC_mp h3) hr
      obtain ⟨l, h6, h7⟩ := hx
      have hg := hB j id (h2 _ _ (bindC_le h1 _ _ (addB_ok hb).2))
      have h8 : RC P E z g' (.mp j) v := ⟨l, by rw [hg]; exact h6, h7⟩
      show All2 _ (SC.mp j :: newC ps h) _
      exact All2.cons h8 h5
/-! ### Slots -/
theorem hfst_hap {S : Nat → Type} : ∀ (ts us : List Ty) (a : HL S ts) (b : HL S us), hfst ts us (hap a b) = a
  | [], _, _, _ => rfl
  | _ :: ts, us, (x, a), b => by
    show (x, hfst ts us (hap a b)) = _
    rw [hfst_hap ts us a b]
theorem hsnd_hap {S : Nat → Type} : ∀ (ts us : List Ty) (a : HL S ts) (b : HL S us), hsnd ts us (hap a b) = b
  | [], _, _, _ => rfl
  | _ :: ts, us, a, b => hsnd_hap ts us a.2 b
theorem bindS_le {L : Nat → Option (SV E)} : ∀ {l : List (Nat × VP)} {a b : Bd}, bindS L l a = some b → Bd.Le a b
  | [], a, b, h => by obtain rfl := Option.some.inj h; exact Bd.Le.refl _
  | (t, .d _) :: l, a, b, h => bindS_le (l := l) h
  | (t, .one p) :: l, a, b, h => by
    simp only [bindS] at h
    split at h
    · split at h
      · rename_i hb; exact (bindC_le hb).trans (bindS_le h)
      · cases h
    · cases h
  | (t, .agg ps) :: l, a, b, h => by
    simp only [bindS] at h
    split at h
    · split at h
      · rename_i hb; exact (bindC_le hb).trans (bindS_le h)
      · cases h
    · cases h
theorem newV_ok {H : Nat → Option (Obj E)} (hH : HR P E Bs F0 w0 w z g H) {bs : Bd} (hB : Bound g g' bs) {p : VP} {x x' : V1 E} {h : HL E.S p.T} {a b : Bd} {v : Value}
    (hb : ∀ c, p = .one c → ∃ y, x = .one y ∧ bindC [c] [y] a = some b) (hg : ∀ ps, p = .agg ps → ∃ y, x = .agg y ∧ bindC ps y a = some b) (h2 : Bd.Le b bs) (h3 : leafV H p x = some h) (h4 : newV p h = some x') (hv : R1 P E z g x v) : R1 P E z g' x' v := by
  cases p with
  | d ty =>
    have hd : takeD E H ty x = some h.1 := unitO_some h3
    obtain ⟨y, h6, h7⟩ := RT_asV (takeD_RT hH hd hv) g'
    have h5 : asV E ty (E.cells ty h.1) = some x' := h4
    rw [h6] at h5
    obtain rfl := Option.some.inj h5
    exact h7
  | one c =>
    obtain ⟨y, rfl, h5⟩ := hb c rfl
    have h6 := cells_meet hH hB [c] [y] a b h [v] h5 h2 h3 (.cons hv .nil)
    have h7 : ones (newC [c] h) = some x' := h4
    generalize newC [c] h = l at h6 h7
    cases h6 with
    | cons h8 h9 =>
      cases h9
      obtain rfl := Option.some.inj h7
      exact h8
  | agg ps =>
    obtain ⟨y, rfl, h5⟩ := hg ps rfl
    obtain ⟨vs, rfl, h8⟩ := hv
    have h6 := cells_meet hH hB ps y a b h vs h5 h2 h3 h8
    have h7 : some (V1.agg (newC ps h)) = some x' := h4
    obtain rfl := Option.some.inj h7
    exact ⟨vs, rfl, h6⟩
theorem bindS_cons {L : Nat → Option (SV E)} {t : Nat} {p : VP} {l : List (Nat × VP)} {a b : Bd} {x : V1 E} (hx : L t = some (.v x)) (h : bindS L ((t, p) :: l) a = some b) :
    ∃ a', bindS L l a' = some b ∧ (∀ c, p = .one c → ∃ y, x = .one y ∧ bindC [c] [y] a = some a') ∧ ∀ ps, p = .agg ps → ∃ y, x = .agg y ∧ bindC ps y a = some a' := by
  cases p with
  | d ty => exact ⟨a, h, (fun _ e => nomatch e), fun _ e => nomatch e⟩
  | one c =>
    unfold bindS at h
    rw [hx] at h
    cases x with
    | agg y => cases h
    | one y =>
      cases hb : bindC [c] [y] a with
      | none => simp only [hb] at h; cases h
      | some b1 =>
        simp only [hb] at h
        exact ⟨b1, h, (fun c' e => by injection e with e; subst e; exact ⟨y, rfl, hb⟩), fun _ e => nomatch e⟩
  | agg ps =>
    unfold bindS at h
    rw [hx] at h
    cases x with
    | one y => cases h
    | agg y =>
      cases hb : bindC ps y a with
      | none => simp only [hb] at h; cases h
      | some b1 =>
        simp only [hb] at h
        exact ⟨b1, h, (fun _ e => nomatch e), fun c' e => by injection e with e; subst e; exact ⟨y, rfl, hb⟩⟩
theorem leafS_cons {L : Nat → Option (SV E)} {H : Nat → Option (Obj E)} {t : Nat} {p : VP} {l : List (Nat × VP)} {h : HL E.S (slotsT ((t, p) :: l))} (e : leafS L H ((t, p) :: l) = some h) :
    ∃ x h1 h2, L t = some (.v x) ∧ leafV H p x = some h1 ∧ leafS L H l = some h2 ∧ h = hap h1 h2 := by
  unfold leafS at e
  cases hx : L t with
  | none => rw [hx] at e; cases e
  | some sv =>
    cases sv with
    | tup q => rw [hx] at e; cases e
    | v x =>
      rw [hx] at e
      obtain ⟨a, b, h1, h2, h3⟩ := hapO_some e
      exact ⟨x, a, b, rfl, h1, h2, h3⟩
theorem newS_cons {t : Nat} {p : VP} {l : List (Nat × VP)} {h1 : HL E.S p.T} {h2 : HL E.S (slotsT l)} {env : List (Nat × Option (SV E))} (e : newS ((t, p) :: l) (hap h1 h2) = some env) :
    ∃ x env', newV p h1 = some x ∧ newS l h2 = some env' ∧ env = (t, some (.v x)) :: env' := by
  have e' : slotO t (newV p (hfst p.T (slotsT l) (hap h1 h2))) (newS l (hsnd p.T (slotsT l) (hap h1 h2))) = some env := e
  rw [hfst_hap, hsnd_hap] at e'
  cases hx : newV p h1 with
  | none => rw [hx] at e'; cases e'
  | some x =>
    cases hl : newS l h2 with
    | none => rw [hx, hl] at e'; cases e'
    | some env' =>
      rw [hx, hl] at e'
      exact ⟨x, env', rfl, rfl, (Option.some.inj e').symm⟩
theorem slots_meet {H : Nat → Option (Obj E)} {L : Nat → Option (SV E)} (hH : HR P E Bs F0 w0 w z g H) {bs : Bd} (hB : Bound g g' bs) : ∀ (l : List (Nat × VP)) (a b : Bd) (h : HL E.S (slotsT l)) (env : List (Nat × Option (SV E))), bindS L l a = some b → Bd.Le b bs → leafS L H l = some h → newS l h = some env →
    ∀ t o, aget t env = some o → ∃ sv s0, o = some sv ∧ L t = some s0 ∧ ∀ v, RV P E z g s0 v → RV P E z g' sv v := by
  intro l
  induction l with
  | nil =>
    intro a b h env _ _ _ h4 t o h5
    have h6 : some [] = some env := h4
    obtain rfl := Option.some.inj h6
    cases h5
  | cons q l ih =>
    obtain ⟨t, p⟩ := q
    intro a b h env h1 h2 h3 h4 t' o h5
    obtain ⟨x, y1, y2, hx, hl1, hl2, rfl⟩ := leafS_cons h3
    obtain ⟨x', env', hn1, hn2, rfl⟩ := newS_cons h4
    obtain ⟨a', ha, hb, hg⟩ := bindS_cons hx h1
    simp only [aget] at h5
    split at h5
    · rename_i hb'
      obtain rfl := Nat.eq_of_beq_eq_true hb'
      obtain rfl := Option.some.inj h5
      exact ⟨_, _, rfl, hx, fun v hv => newV_ok hH hB hb hg ((bindS_le ha).trans h2) hl1 hn1 hv⟩
    · exact ih a' b y2 env' ha h2 hl2 hn2 t' o h5
end
end Rt
end Go
