/-
  Regions that draw their order, once more: quiet operations stand in all worlds of a kind, and loud ones lead from one such world to another. No program in sight.
-/
import Derived.Test.YtboplmpnjepdnaaGreatBase
namespace Go
open Go.RowKit

section
variable {P : Program} {ops : Array Oper} {md : Region.Mode} {Q : Exit → Act → World → Prop}

def Oper.quietI (P : Program) (o : Oper) (a : Act) (I : World → Prop) (next : Act → Prop) : Prop :=
  ∃ v, (∀ w, I w → Oper.quietUponX P w v ((execOp a.eval o).run P w)) ∧ next (a.put o.dst v)


/-- The walk in a given order: each entry is an operation's index, and whether it is loud. -/
def wpMixI (P : Program) (ops : Array Oper) (tl fr : List Nat) (I : World → Prop) (Q : Exit → Act → World → Prop) : List (Nat × Bool) → Act → World → Prop
  | [], a, w => ∀ X d, Q .normal a (w.ext X d)
  | (i, true) :: rest, a, w => match ops[i]? with
    | none => False
    | some o => ∀ X d, wpList P ops (Exit.then (fun a' w' => (tl.contains i = false → I w → I w') ∧ wpMixI P ops tl fr I Q rest a' w') (onlyOut Q)) [o] a (w.ext X d)
  | (i, false) :: rest, a, w => match ops[i]? with
    | none => False
    | some o => if Region.wanted o (yielded ops a.tmps) then o.quietI P a (if fr.contains i then fun _ => True else I) (fun a' => wpMixI P ops tl fr I Q rest a' w) else wpMixI P ops tl fr I Q rest (a.put o.dst undef) w

/-- 'wpAny', asked of every extension; as long as st holds, worlds of the kind I are to be left. -/
def wpAnyI (P : Program) (md : Region.Mode) (ops : Array Oper) (tl : List Nat) (I : World → Prop) (Q : Exit → Act → World → Prop) : Nat → Bool → Array Bool → Act → World → Prop
  | 0, _, listed, a, w => Region.ready md ops listed = [] ∧ ∀ X d, Q .normal a (w.ext X d)
  | fuel + 1, st, listed, a, w =>
    (Region.ready md ops listed = [] → ∀ X d, Q .normal a (w.ext X d)) ∧
    ∀ i ∈ Region.ready md ops listed, ∀ X d, wpOp P ops (onlyOut Q) i (fun a' w' => ((st && !(tl.contains i)) = true → I w') ∧ wpAnyI P md ops tl I Q fuel (st && !(tl.contains i)) (listed.setIfInBounds i true) a' w') a (w.ext X d)

theorem wpAny_of_I {I : World → Prop} {tl : List Nat} : ∀ (fuel : Nat) (st : Bool) (listed : Array Bool) (a : Act) (w : World), wpAnyI P md ops tl I Q fuel st listed a w → wpAny P md ops Q fuel listed a w
  | 0, _, _, a, w, h => ⟨h.1, by have := h.2 #[] w.drawn; rwa [← World.self_as_ext] at this⟩
  | fuel + 1, _, _, a, w, h => ⟨fun h0 => by have := h.1 h0 #[] w.drawn; rwa [← World.self_as_ext] at this, fun i hi => by
      have := h.2 i hi #[] w.drawn
      rw [← World.self_as_ext] at this
      exact wpOp_out (wpOp_mono (fun a' w' h' => wpAny_of_I fuel _ _ a' w' h'.2) this)⟩

theorem wpAnyI_ext {I : World → Prop} {tl : List Nat} : ∀ (fuel : Nat) (st : Bool) (listed : Array Bool) (a : Act) (w : World) (X : Array Obj) (d : Nat), wpAnyI P md ops tl I Q fuel st listed a w → wpAnyI P md ops tl I Q fuel st listed a (w.ext X d)
  | 0, _, _, a, w, X, d, h => ⟨h.1, fun Y e => by rw [World.ext_ext]; exact h.2 _ _⟩
  | fuel + 1, _, _, a, w, X, d, h => ⟨fun h0 Y e => by rw [World.ext_ext]; exact h.1 h0 _ _, fun i hi Y e => by rw [World.ext_ext]; exact h.2 i hi _ _⟩

/-- In every extension of W operation 'o' leaves 'v' in its temporary. -/
def YieldsI (P : Program) (ops : Array Oper) (I : World → Prop) (o : Oper) (v : Value) (a : Act) : Prop :=
  (Region.wanted o (yielded ops a.tmps) = true ∧ ∀ w, I w → Oper.quietUponX P w v ((execOp a.eval o).run P w)) ∨
  (Region.wanted o (yielded ops a.tmps) = false ∧ v = undef)

theorem YieldsI.of_same {I : World → Prop} {o : Oper} {v : Value} {a a' : Act} (hy : YieldsI P ops I o v a) (he : execOp a'.eval o = execOp a.eval o)
    (hw : Region.wanted o (yielded ops a'.tmps) = Region.wanted o (yielded ops a.tmps)) : YieldsI P ops I o v a' := by
  unfold YieldsI at *
  rw [he, hw]
  exact hy

/-- The operation, met in a world that extends W. -/
theorem YieldsI.wpOp {I : World → Prop} {w : World} {i : Nat} {o : Oper} {v : Value} {a : Act} (hi : ops[i]? = some o) (hy : YieldsI P ops I o v a) (hw : I w)
    {K : Act → World → Prop} (h : ∀ w', Ext w w' → K (a.put o.dst v) w') : wpOp P ops Q i K a w := by
  unfold Go.wpOp
  simp only [hi]
  rcases hy with ⟨hw1, hv⟩ | ⟨hw1, rfl⟩
  · simp only [hw1, if_true]
    left
    unfold Oper.wp
    have h3 := hv w hw
    generalize (execOp a.eval o).run P w = r at *
    cases r with
    | ok n w' =>
      cases n <;> simp only [Oper.quietUponX] at h3 <;> simp only [Oper.upon]
      case value u => obtain ⟨e1, e2⟩ := h3; rw [e1, e2]; exact h _ (Ext.refl _)
      case skip => obtain ⟨e1, e2⟩ := h3; rw [e1, ← e2]; exact h _ (Ext.refl _)
      case enter f args =>
        obtain ⟨e1, hc⟩ := h3
        rw [e1]
        exact hc.mono fun e w'' ⟨he, hw''⟩ => by subst he; exact h _ hw''
    | halt x w' => simp only [Oper.quietUponX] at h3
  · simp only [hw1, Bool.false_eq_true, if_false]; exact h _ (Ext.refl _)

/-- One operation 'oj', apart from 'oi': whether 'oi''s value is already in its temporary makes no difference to it. -/
theorem wpOp_putI {I : World → Prop} {j : Nat} {oi oj : Oper} {v : Value} (hj : ops[j]? = some oj) (hap : oi.apart ops oj = true)
    (hsi : ∀ cs b, oi.op ≠ .select cs b) (hsj : ∀ cs b, oj.op ≠ .select cs b) {K : Act → World → Prop} {a : Act} {w : World}
    (hy : YieldsI P ops I oi v a) (h : wpOp P ops (onlyOut Q) j K (a.put oi.dst v) w) :
    wpOp P ops (onlyOut Q) j (fun a' w' => YieldsI P ops I oi v a' ∧ K (a'.put oi.dst v) w') a w := by
  obtain ⟨h1, h2, h3⟩ := Oper.apart_spec hap
  have keep : ∀ (a : Act), YieldsI P ops I oi v a → ∀ u, YieldsI P ops I oi v (a.put oj.dst u) := fun a hy u =>
    hy.of_same (execOp_put oi hsi a oj.dst u h3) (wanted_put oi a oj.dst u h3)
  have keepD : ∀ (a : Act) (ds : List Deferred), YieldsI P ops I oi v a → YieldsI P ops I oi v { a with defers := ds } := fun a ds hy => hy
  unfold Go.wpOp at *
  simp only [hj] at *
  rw [wanted_put oj a oi.dst v h1] at h
  split
  · rename_i hw
    simp only [hw, if_true] at h
    rcases h with h | ⟨h, hl⟩
    · left
      unfold Oper.wp at *
      rw [execOp_put oj hsj a oi.dst v h1] at h
      generalize (execOp a.eval oj).run P w = r at *
      cases r with
      | ok n w' =>
        cases n <;> simp only [Oper.upon] at h ⊢
        case value u => exact ⟨keep a hy u, by rw [← Act.put_comm a v u h2]; exact h⟩
        case skip => exact ⟨keep a hy _, by rw [← Act.put_comm a v undef h2]; exact h⟩
        case defer dd =>
          refine ⟨keep _ (keepD a _ hy) _, ?_⟩
          rw [← Act.put_comm _ v undef h2]
          have := h
          rw [Act.put_defers] at this
          exact this
        case enter f args =>
          exact Calls.mono h (fun e w'' he => by
            cases e with
            | returned u => exact ⟨keep a hy u, by rw [← Act.put_comm a v u h2]; exact he⟩
            | panicked chain => exact he
            | outgrown => exact he)
        case row row args =>
          exact Rows.mono h (fun u w'' he => ⟨keep a hy u, by rw [← Act.put_comm a v u h2]; exact he⟩)
      | halt x w' => cases x <;> simp only [Oper.upon] at h ⊢ <;> exact h
    · right
      refine ⟨?_, hl⟩
      unfold Oper.asks at *
      rw [execOp_put oj hsj a oi.dst v h1] at h
      exact h
  · rename_i hw
    simp only [hw] at h
    exact ⟨keep a hy _, by rw [← Act.put_comm a v undef h2]; exact h⟩
/-- A quiet operation that may come up now may be taken first: fre: it yields its value in every world; else whatever turns memory waits for it. -/
theorem wpAnyI_first {I : World → Prop} (hI : ∀ w w', I w → Ext w w' → I w') {tl : List Nat} {i fu : Nat} (fre : Bool) (hit : tl.contains i = false) (htl : fre = false → ∀ j ∈ tl, waitsB md ops fu j i = true) {oi : Oper} {v : Value} (hi : ops[i]? = some oi) (hsel : ∀ (j : Nat) (o : Oper) cs b, ops[j]? = some o → o.op ≠ .select cs b) :
    ∀ (fuel : Nat) (st : Bool) (listed : Array Bool) (a : Act) (w : World), (st = true → I w) → (fre = false → st = true) → Closed md ops listed →
      (∀ j oj, ops[j]? = some oj → j ≠ i → listed.getD j true = false → (∀ e ∈ oj.after, Region.binds md e = true → e.on ≠ i) → oi.apart ops oj = true) →
      i ∈ Region.ready md ops listed → YieldsI P ops (if fre then fun _ => True else I) oi v a →
      wpAnyI P md ops tl I Q fuel st (listed.setIfInBounds i true) (a.put oi.dst v) w → wpAnyI P md ops tl I Q (fuel + 1) st listed a w := by
  have stands : ∀ {st : Bool} {w w' : World}, (st = true → I w) → (fre = false → st = true) → Ext w w' → (if fre then fun _ => True else I) w' := fun {st w w'} h1 h2 hx => by
    cases fre with
    | true => trivial
    | false => exact hI _ _ (h1 (h2 rfl)) hx
  intro fuel
  induction fuel with
  | zero =>
    intro st listed a w hW hfr hcl _ hr hy H
    refine ⟨fun h => (by rw [h] at hr; cases hr), fun j hj X d => ?_⟩
    by_cases hji : j = i
    · subst hji
      rw [hit]
      simp only [Bool.not_false, Bool.and_true]
      exact hy.wpOp hi (stands hW hfr ⟨X, d, rfl⟩) fun w' hw' => ⟨fun hst => hI _ _ (hI _ _ (hW hst) ⟨X, d, rfl⟩) hw', by
        obtain ⟨Y, e, rfl⟩ := hw'
        rw [World.ext_ext]
        exact wpAnyI_ext _ _ _ _ _ _ _ H⟩
    · have := ready_mono hj hji
      rw [H.1] at this
      cases this
  | succ fuel ih =>
    intro st listed a w hW hfr hcl hfree hr hy H
    refine ⟨fun h => (by rw [h] at hr; cases hr), fun j hj X d => ?_⟩
    by_cases hji : j = i
    · subst hji
      rw [hit]
      simp only [Bool.not_false, Bool.and_true]
      exact hy.wpOp hi (stands hW hfr ⟨X, d, rfl⟩) fun w' hw' => ⟨fun hst => hI _ _ (hI _ _ (hW hst) ⟨X, d, rfl⟩) hw', by
        obtain ⟨Y, e, rfl⟩ := hw'
        rw [World.ext_ext]
        exact wpAnyI_ext _ _ _ _ _ _ _ H⟩
    · have h1 := H.2 j (ready_mono hj hji) X d
      obtain ⟨hjun, oj, hoj, hall⟩ := mem_ready.1 hj
      have hnot : ∀ e ∈ oj.after, Region.binds md e = true → e.on ≠ i := fun e he hb heq => by
        have h1 := hall e he hb
        have h0 := (mem_ready.1 hr).1
        rw [heq] at h1
        rcases Nat.lt_or_ge i listed.size with h' | h'
        · simp [h'] at h0 h1; rw [h0] at h1; cases h1
        · simp [Array.getElem?_eq_none h'] at h1
      have h2 := wpOp_putI hoj (hfree j oj hoj hji hjun hnot) (fun cs b => hsel i oi cs b hi) (fun cs b => hsel j oj cs b hoj) hy h1
      have hfree' : ∀ k ok, ops[k]? = some ok → k ≠ i → (listed.setIfInBounds j true).getD k true = false →
          (∀ e ∈ ok.after, Region.binds md e = true → e.on ≠ i) → oi.apart ops ok = true := fun k ok hk hki hun hno => by
        refine hfree k ok hk hki ?_ hno
        by_cases hjk : j = k
        · subst hjk; exact hjun
        · rw [getD_set_ne true hjk] at hun; exact hun
      have hjt : fre = false → tl.contains j = false := fun hfre => by
        cases hc : tl.contains j with
        | false => rfl
        | true =>
          have hw := htl hfre j (by simpa using hc)
          have := closed_waits hcl fu j i oj hoj hall hw
          have h0 := (mem_ready.1 hr).1
          rcases Nat.lt_or_ge i listed.size with h' | h'
          · simp [h'] at h0 this; rw [h0] at this; cases this
          · simp [Array.getElem?_eq_none h'] at h0
      refine wpOp_mono (fun a' w' h3 => ⟨h3.2.1, ih (st && !(tl.contains j)) (listed.setIfInBounds j true) a' w' h3.2.1 (fun hfre => by rw [hfr hfre, hjt hfre]; rfl) (closed_set hcl hj) hfree' (ready_mono hr (Ne.symm hji)) h3.1 ?_⟩) h2
      rw [Array.setIfInBounds_comm _ _ hji]
      exact h3.2.2

/-- Is a quiet operation that reads memory still to come? -/
def hasQI (fr : List Nat) : List (Nat × Bool) → Bool
  | [] => false
  | (i, b) :: r => (!b && !(fr.contains i)) || hasQI fr r
/-- The order is one of those that the edges allow: a quiet operation may come now, and whatever has not come yet waits for it or is apart; a loud one is the only one that may come now. -/
def mixFromI (md : Region.Mode) (ops : Array Oper) (tl fr : List Nat) : List (Nat × Bool) → Array Bool → Bool
  | [], listed => (Region.ready md ops listed).isEmpty
  | (i, true) :: rest, listed => Region.ready md ops listed == [i] && (!(tl.contains i) || !(hasQI fr rest)) && mixFromI md ops tl fr rest (listed.setIfInBounds i true)
  | (i, false) :: rest, listed => (Region.ready md ops listed).contains i && Region.free md ops listed i && !(tl.contains i) && mixFromI md ops tl fr rest (listed.setIfInBounds i true)
def mixBI (md : Region.Mode) (ops : Array Oper) (tl fr : List Nat) (ord : List (Nat × Bool)) : Bool :=
  Region.noSelect ops && mixFromI md ops tl fr ord (Array.replicate ops.size false) && decide (ord.length = ops.size) &&
    ord.all fun p => p.2 || (fr.contains p.1 || tl.all fun j => waitsB md ops ops.size j p.1)
theorem wpAnyI_mix {I : World → Prop} (hI : ∀ w w', I w → Ext w w' → I w') {tl fr : List Nat} {fu : Nat} (hs : Region.noSelect ops = true) : ∀ (ord : List (Nat × Bool)) (st : Bool) (listed : Array Bool) (a : Act) (w : World), (st = true → I w) → (hasQI fr ord = true → st = true) → Closed md ops listed → (∀ i, (i, false) ∈ ord → fr.contains i = false → ∀ j ∈ tl, waitsB md ops fu j i = true) →
    mixFromI md ops tl fr ord listed = true → wpMixI P ops tl fr I Q ord a w → wpAnyI P md ops tl I Q ord.length st listed a w
  | [], _, _, _, _, _, _, _, _, hB, h => ⟨by simpa [mixFromI] using hB, h⟩
  | (i, true) :: rest, st, listed, a, w, hW, hst, hcl, hT, hB, h => by
    simp only [mixFromI, Bool.and_eq_true, beq_iff_eq] at hB
    obtain ⟨⟨hr, hti⟩, hB'⟩ := hB
    refine ⟨fun h0 => (by rw [h0] at hr; cases hr), fun j hj X d => ?_⟩
    rw [hr] at hj
    obtain rfl : j = i := by simpa using hj
    have hm : j ∈ Region.ready md ops listed := by rw [hr]; simp
    obtain ⟨_, o, ho, _⟩ := mem_ready.1 hm
    simp only [wpMixI, ho] at h
    have h' := h X d
    have hT' : ∀ k, (k, false) ∈ rest → fr.contains k = false → ∀ j ∈ tl, waitsB md ops fu j k = true := fun k hk => hT k (List.mem_cons_of_mem _ hk)
    have hcl' := closed_set hcl hm
    have hst' : hasQI fr rest = true → (st && !(tl.contains j)) = true := fun hc => by
      rw [hc] at hti
      have h1 : tl.contains j = false := by simpa using hti
      rw [hst (by simp [hasQI, hc]), h1]; rfl
    have hob : ∀ w', (tl.contains j = false → I w → I w') → ((st && !(tl.contains j)) = true → I w') := fun w' h1 h2 => by
      simp only [Bool.and_eq_true, Bool.not_eq_true'] at h2
      exact h1 h2.2 (hW h2.1)
    unfold wpOp
    simp only [ho]
    unfold wpList at h'
    split at h'
    · rename_i hw
      rw [if_pos hw]
      refine h'.imp (fun h' => ?_) (fun h' => ⟨h'.1, h'.2⟩)
      exact Oper.wp_out (fun a' w' hk => ⟨hob w' hk.1, wpAnyI_mix hI hs rest _ _ a' w' (hob w' hk.1) hst' hcl' hT' hB' hk.2⟩) (fun ch a w h => h) (fun h => h) h'
    · rename_i hw
      rw [if_neg hw]
      exact ⟨hob _ h'.1, wpAnyI_mix hI hs rest _ _ _ _ (hob _ h'.1) hst' hcl' hT' hB' h'.2⟩
  | (i, false) :: rest, st, listed, a, w, hW, hst, hcl, hT, hB, h => by
    simp only [mixFromI, Bool.and_eq_true, Bool.not_eq_true'] at hB
    obtain ⟨⟨⟨hr, hf⟩, hit⟩, hB'⟩ := hB
    have hr' : i ∈ Region.ready md ops listed := by simpa using hr
    obtain ⟨_, o, ho, _⟩ := mem_ready.1 hr'
    simp only [wpMixI, ho] at h
    have hT' : ∀ k, (k, false) ∈ rest → fr.contains k = false → ∀ j ∈ tl, waitsB md ops fu j k = true := fun k hk => hT k (List.mem_cons_of_mem _ hk)
    have hcl' := closed_set hcl hr'
    have hst' : hasQI fr rest = true → st = true := fun hc => hst (by simp [hasQI, hc])
    have hfre : fr.contains i = false → st = true := fun hc => hst (by simp only [hasQI, hc]; rfl)
    split at h
    · rename_i hw
      obtain ⟨v, hv, hn⟩ := h
      exact wpAnyI_first hI (fr.contains i) hit (hT i (by simp)) ho (Region.noSelect_spec hs) rest.length st listed a w hW hfre hcl (Region.free_spec ho hf) hr' (.inl ⟨hw, hv⟩)
        (wpAnyI_mix hI hs rest _ _ _ w hW hst' hcl' hT' hB' hn)
    · rename_i hw
      exact wpAnyI_first hI (fr.contains i) hit (hT i (by simp)) ho (Region.noSelect_spec hs) rest.length st listed a w hW hfre hcl (Region.free_spec ho hf) hr' (.inr ⟨by simpa using hw, rfl⟩)
        (wpAnyI_mix hI hs rest _ _ _ w hW hst' hcl' hT' hB' h)

/-- **A REGION THAT DRAWS ITS ORDER, WALKED IN ONE ORDER.** -/
theorem wp_region_mixI {I : World → Prop} (hI : ∀ w w', I w → Ext w w' → I w') {id : Nat} {l : List Oper} {a : Act} {w : World} (tl fr : List Nat) (ord : List (Nat × Bool)) (hm : P.follows .mixedOrders = true) (hB : mixBI .any l.toArray tl fr ord = true)
    (hw : I w) (h : wpMixI P l.toArray tl fr I Q ord a w) : (Code.region id l.toArray true).wp P Q a w := by
  simp only [mixBI, Bool.and_eq_true, decide_eq_true_eq] at hB
  obtain ⟨⟨⟨hs, hf⟩, hlen⟩, htl⟩ := hB
  refine wp_region_any hm (wpAny_of_I (I := I) (tl := tl) _ true _ _ _ ?_)
  have := wpAnyI_mix hI (md := .any) (tl := tl) (fr := fr) (fu := l.toArray.size) hs ord true (Array.replicate l.toArray.size false) a w (fun _ => hw) (fun _ => rfl) (closed_start _) (fun i hi hfr j hj => by
    have := List.all_eq_true.1 htl _ hi
    simp only [Bool.false_or, hfr] at this
    exact List.all_eq_true.1 this j hj) hf h
  have h2 := wpAnyI_ext _ _ _ _ _ #[] (w.drawn + 1) this
  rw [← World.drew_as_ext, hlen] at h2
  exact h2

theorem wpMixI_nil {tl fr : List Nat} {I : World → Prop} {a : Act} {w : World} (h : ∀ X d, Q .normal a (w.ext X d)) : wpMixI P ops tl fr I Q [] a w := h
/-- A quiet operation. -/
theorem wpMixI_quiet {tl fr : List Nat} {l : List Oper} {I : World → Prop} {i : Nat} {rest : List (Nat × Bool)} {a : Act} {w : World} (o : Oper) (ho : l[i]? = some o)
    (h : ∀ K : Act → Prop, (∀ a, wpMixI P l.toArray tl fr I Q rest a w → K a) → if Region.wanted o (yielded l.toArray a.tmps) then o.quietI P a (if fr.contains i then fun _ => True else I) K else K (a.put o.dst undef)) :
    wpMixI P l.toArray tl fr I Q ((i, false) :: rest) a w := by
  have ho' : l.toArray[i]? = some o := by simpa using ho
  simp only [wpMixI, ho']
  exact h _ (fun _ h => h)
/-- A loud one: what follows is asked of whatever it leaves. -/
theorem wpMixI_loud {tl fr : List Nat} {l : List Oper} {I : World → Prop} {i : Nat} {rest : List (Nat × Bool)} {a : Act} {w : World} (o : Oper) (ho : l[i]? = some o)
    (h : ∀ K : Act → World → Prop, (∀ a' w', (tl.contains i = false → I w → I w') → wpMixI P l.toArray tl fr I Q rest a' w' → K a' w') → ∀ X d, wpList P l.toArray (Exit.then K (onlyOut Q)) [o] a (w.ext X d)) :
    wpMixI P l.toArray tl fr I Q ((i, true) :: rest) a w := by
  have ho' : l.toArray[i]? = some o := by simpa using ho
  simp only [wpMixI, ho']
  exact h _ (fun _ _ h1 h2 => ⟨h1, h2⟩)

/-! ### One operation may come at any time ahead of those that wait for it -/
/-- .. the walk: fl is that operation; post comes behind it in any case. -/
def wpMixF (P : Program) (ops : Array Oper) (tl fr : List Nat) (I : World → Prop) (Q : Exit → Act → World → Prop) (fl : Nat) (post : List (Nat × Bool)) : List (Nat × Bool) → Act → World → Prop
  | [], a, w => wpMixI P ops tl fr I Q ((fl, true) :: post) a w
  | (i, true) :: pre, a, w => (match ops[i]? with
    | none => False
    | some o => ∀ X d, wpList P ops (Exit.then (fun a' w' => (tl.contains i = false → I w → I w') ∧ wpMixF P ops tl fr I Q fl post pre a' w') (onlyOut Q)) [o] a (w.ext X d)) ∧
    (match ops[fl]? with
    | none => False
    | some o => ∀ X d, wpList P ops (Exit.then (fun a' w' => (tl.contains fl = false → I w → I w') ∧ wpMixI P ops tl fr I Q ((i, true) :: pre ++ post) a' w') (onlyOut Q)) [o] a (w.ext X d))
  | (i, false) :: pre, a, w => match ops[i]? with
    | none => False
    | some o => if Region.wanted o (yielded ops a.tmps) then o.quietI P a (if fr.contains i then fun _ => True else I) (fun a' => wpMixF P ops tl fr I Q fl post pre a' w) else wpMixF P ops tl fr I Q fl post pre (a.put o.dst undef) w
def mixFromF (md : Region.Mode) (ops : Array Oper) (tl fr : List Nat) (fl : Nat) (post : List (Nat × Bool)) : List (Nat × Bool) → Array Bool → Bool
  | [], listed => mixFromI md ops tl fr ((fl, true) :: post) listed
  | (i, true) :: pre, listed => (Region.ready md ops listed).contains i && (Region.ready md ops listed).contains fl && (Region.ready md ops listed).all (fun j => j == i || j == fl) && (!(tl.contains i) || !(hasQI fr (pre ++ post))) &&
    mixFromF md ops tl fr fl post pre (listed.setIfInBounds i true) && mixFromI md ops tl fr ((i, true) :: pre ++ post) (listed.setIfInBounds fl true)
  | (i, false) :: pre, listed => (Region.ready md ops listed).contains i && Region.free md ops listed i && !(tl.contains i) && mixFromF md ops tl fr fl post pre (listed.setIfInBounds i true)
def mixBF (md : Region.Mode) (ops : Array Oper) (tl fr : List Nat) (fl : Nat) (pre post : List (Nat × Bool)) : Bool :=
  Region.noSelect ops && mixFromF md ops tl fr fl post pre (Array.replicate ops.size false) && decide (pre.length + (post.length + 1) = ops.size) && !(tl.contains fl) &&
    (pre ++ post).all fun p => p.2 || (fr.contains p.1 || tl.all fun j => waitsB md ops ops.size j p.1)
theorem hasQI_append {fr : List Nat} : ∀ {l m : List (Nat × Bool)}, hasQI fr (l ++ m) = (hasQI fr l || hasQI fr m)
  | [], _ => rfl
  | (i, b) :: l, m => by simp only [List.cons_append, hasQI, hasQI_append (l := l), Bool.or_assoc]
theorem wpAnyI_mixF {I : World → Prop} (hI : ∀ w w', I w → Ext w w' → I w') {tl fr : List Nat} {fu fl : Nat} {post : List (Nat × Bool)} (hs : Region.noSelect ops = true) (hft : tl.contains fl = false) : ∀ (pre : List (Nat × Bool)) (st : Bool) (listed : Array Bool) (a : Act) (w : World), (st = true → I w) → (hasQI fr (pre ++ post) = true → st = true) → Closed md ops listed →
    (∀ i, (i, false) ∈ pre ++ post → fr.contains i = false → ∀ j ∈ tl, waitsB md ops fu j i = true) →
    mixFromF md ops tl fr fl post pre listed = true → wpMixF P ops tl fr I Q fl post pre a w → wpAnyI P md ops tl I Q (pre.length + (post.length + 1)) st listed a w
  | [], st, listed, a, w, hW, hst, hcl, hT, hB, h => by
    rw [List.length_nil, Nat.zero_add]
    exact wpAnyI_mix hI hs ((fl, true) :: post) st listed a w hW (fun hc => hst (by simpa [hasQI] using hc)) hcl (fun i hi => hT i (by simpa using hi)) hB h
  | (i, true) :: pre, st, listed, a, w, hW, hst, hcl, hT, hB, h => by
    simp only [mixFromF, Bool.and_eq_true] at hB
    obtain ⟨⟨⟨⟨⟨hri, hrf⟩, hall⟩, hti⟩, hB1⟩, hB2⟩ := hB
    rw [List.length_cons, show pre.length + 1 + (post.length + 1) = (pre.length + (post.length + 1)) + 1 by omega]
    refine ⟨fun h0 => (by rw [h0] at hri; simp at hri), fun j hj X d => ?_⟩
    obtain ⟨h1, h2⟩ := h
    by_cases hji : j = i
    · subst hji
      obtain ⟨_, o, ho, _⟩ := mem_ready.1 hj
      simp only [ho] at h1
      have h' := h1 X d
      have hT' : ∀ k, (k, false) ∈ pre ++ post → fr.contains k = false → ∀ j ∈ tl, waitsB md ops fu j k = true := fun k hk => hT k (by simp only [List.cons_append]; exact List.mem_cons_of_mem _ hk)
      have hcl' := closed_set hcl hj
      have hst' : hasQI fr (pre ++ post) = true → (st && !(tl.contains j)) = true := fun hc => by
        rw [hc] at hti
        have h3 : tl.contains j = false := by simpa using hti
        rw [hst (by simp [hasQI, hc]), h3]; rfl
      have hob : ∀ w', (tl.contains j = false → I w → I w') → ((st && !(tl.contains j)) = true → I w') := fun w' h3 h4 => by
        simp only [Bool.and_eq_true, Bool.not_eq_true'] at h4
        exact h3 h4.2 (hW h4.1)
      unfold wpOp
      simp only [ho]
      unfold wpList at h'
      split at h'
      · rename_i hw
        rw [if_pos hw]
        refine h'.imp (fun h' => ?_) (fun h' => ⟨h'.1, h'.2⟩)
        exact Oper.wp_out (fun a' w' hk => ⟨hob w' hk.1, wpAnyI_mixF hI hs hft pre _ _ a' w' (hob w' hk.1) hst' hcl' hT' hB1 hk.2⟩) (fun ch a w h => h) (fun h => h) h'
      · rename_i hw
        rw [if_neg hw]
        exact ⟨hob _ h'.1, wpAnyI_mixF hI hs hft pre _ _ _ _ (hob _ h'.1) hst' hcl' hT' hB1 h'.2⟩
    · have hjf : j = fl := by
        have := List.all_eq_true.1 hall j hj
        simp only [Bool.or_eq_true, beq_iff_eq] at this
        rcases this with h3 | h3
        · exact absurd h3 hji
        · exact h3
      subst hjf
      obtain ⟨_, o, ho, _⟩ := mem_ready.1 hj
      simp only [ho] at h2
      have h' := h2 X d
      have hcl' := closed_set hcl hj
      have hst' : hasQI fr ((i, true) :: pre ++ post) = true → (st && !(tl.contains j)) = true := fun hc => by
        rw [hft, hst hc]; rfl
      have hob : ∀ w', (tl.contains j = false → I w → I w') → ((st && !(tl.contains j)) = true → I w') := fun w' h3 h4 => by
        simp only [Bool.and_eq_true, Bool.not_eq_true'] at h4
        exact h3 h4.2 (hW h4.1)
      have hlen : pre.length + (post.length + 1) = ((i, true) :: pre ++ post).length := by simp; omega
      rw [hlen]
      unfold wpOp
      simp only [ho]
      unfold wpList at h'
      split at h'
      · rename_i hw
        rw [if_pos hw]
        refine h'.imp (fun h' => ?_) (fun h' => ⟨h'.1, h'.2⟩)
        exact Oper.wp_out (fun a' w' hk => ⟨hob w' hk.1, wpAnyI_mix hI hs _ _ _ a' w' (hob w' hk.1) hst' hcl' hT hB2 hk.2⟩) (fun ch a w h => h) (fun h => h) h'
      · rename_i hw
        rw [if_neg hw]
        exact ⟨hob _ h'.1, wpAnyI_mix hI hs _ _ _ _ _ (hob _ h'.1) hst' hcl' hT hB2 h'.2⟩
  | (i, false) :: pre, st, listed, a, w, hW, hst, hcl, hT, hB, h => by
    simp only [mixFromF, Bool.and_eq_true, Bool.not_eq_true'] at hB
    obtain ⟨⟨⟨hr, hf⟩, hit⟩, hB'⟩ := hB
    rw [List.length_cons, show pre.length + 1 + (post.length + 1) = (pre.length + (post.length + 1)) + 1 by omega]
    have hr' : i ∈ Region.ready md ops listed := by simpa using hr
    obtain ⟨_, o, ho, _⟩ := mem_ready.1 hr'
    simp only [wpMixF, ho] at h
    have hT' : ∀ k, (k, false) ∈ pre ++ post → fr.contains k = false → ∀ j ∈ tl, waitsB md ops fu j k = true := fun k hk => hT k (by simp only [List.cons_append]; exact List.mem_cons_of_mem _ hk)
    have hcl' := closed_set hcl hr'
    have hst' : hasQI fr (pre ++ post) = true → st = true := fun hc => hst (by simp [hasQI, hc])
    have hfre : fr.contains i = false → st = true := fun hc => hst (by simp only [List.cons_append, hasQI, hc]; rfl)
    split at h
    · rename_i hw
      obtain ⟨v, hv, hn⟩ := h
      exact wpAnyI_first hI (fr.contains i) hit (hT i (by simp)) ho (Region.noSelect_spec hs) _ st listed a w hW hfre hcl (Region.free_spec ho hf) hr' (.inl ⟨hw, hv⟩)
        (wpAnyI_mixF hI hs hft pre _ _ _ w hW hst' hcl' hT' hB' hn)
    · rename_i hw
      exact wpAnyI_first hI (fr.contains i) hit (hT i (by simp)) ho (Region.noSelect_spec hs) _ st listed a w hW hfre hcl (Region.free_spec ho hf) hr' (.inr ⟨by simpa using hw, rfl⟩)
        (wpAnyI_mixF hI hs hft pre _ _ _ w hW hst' hcl' hT' hB' h)
theorem wp_region_mixF {I : World → Prop} (hI : ∀ w w', I w → Ext w w' → I w') {id fl : Nat} {l : List Oper} {a : Act} {w : World} (tl fr : List Nat) (pre post : List (Nat × Bool)) (hm : P.follows .mixedOrders = true) (hB : mixBF .any l.toArray tl fr fl pre post = true)
    (hw : I w) (h : wpMixF P l.toArray tl fr I Q fl post pre a w) : (Code.region id l.toArray true).wp P Q a w := by
  simp only [mixBF, Bool.and_eq_true, decide_eq_true_eq, Bool.not_eq_true'] at hB
  obtain ⟨⟨⟨⟨hs, hf⟩, hlen⟩, hft⟩, htl⟩ := hB
  refine wp_region_any hm (wpAny_of_I (I := I) (tl := tl) _ true _ _ _ ?_)
  have := wpAnyI_mixF hI (md := .any) (tl := tl) (fr := fr) (fu := l.toArray.size) hs hft pre true (Array.replicate l.toArray.size false) a w (fun _ => hw) (fun _ => rfl) (closed_start _) (fun i hi hfr j hj => by
    have := List.all_eq_true.1 htl _ hi
    simp only [Bool.false_or, hfr] at this
    exact List.all_eq_true.1 this j hj) hf h
  have h2 := wpAnyI_ext _ _ _ _ _ #[] (w.drawn + 1) this
  rw [← World.drew_as_ext, hlen] at h2
  exact h2
theorem wpMixF_quiet {tl fr : List Nat} {l : List Oper} {I : World → Prop} {i fl : Nat} {pre post : List (Nat × Bool)} {a : Act} {w : World} (o : Oper) (ho : l[i]? = some o)
    (h : ∀ K : Act → Prop, (∀ a, wpMixF P l.toArray tl fr I Q fl post pre a w → K a) → if Region.wanted o (yielded l.toArray a.tmps) then o.quietI P a (if fr.contains i then fun _ => True else I) K else K (a.put o.dst undef)) :
    wpMixF P l.toArray tl fr I Q fl post ((i, false) :: pre) a w := by
  have ho' : l.toArray[i]? = some o := by simpa using ho
  simp only [wpMixF, ho']
  exact h _ (fun _ h => h)
theorem wpMixF_loud {tl fr : List Nat} {l : List Oper} {I : World → Prop} {i fl : Nat} {pre post : List (Nat × Bool)} {a : Act} {w : World} (o fo : Oper) (ho : l[i]? = some o) (hfo : l[fl]? = some fo)
    (h : ∀ K : Act → World → Prop, (∀ a' w', (tl.contains i = false → I w → I w') → wpMixF P l.toArray tl fr I Q fl post pre a' w' → K a' w') → ∀ X d, wpList P l.toArray (Exit.then K (onlyOut Q)) [o] a (w.ext X d))
    (hf : ∀ K : Act → World → Prop, (∀ a' w', (tl.contains fl = false → I w → I w') → wpMixI P l.toArray tl fr I Q ((i, true) :: pre ++ post) a' w' → K a' w') → ∀ X d, wpList P l.toArray (Exit.then K (onlyOut Q)) [fo] a (w.ext X d)) :
    wpMixF P l.toArray tl fr I Q fl post ((i, true) :: pre) a w := by
  have ho' : l.toArray[i]? = some o := by simpa using ho
  have hfo' : l.toArray[fl]? = some fo := by simpa using hfo
  simp only [wpMixF, ho', hfo']
  exact ⟨h _ (fun _ _ h1 h2 => ⟨h1, h2⟩), hf _ (fun _ _ h1 h2 => ⟨h1, h2⟩)⟩
end
end Go
