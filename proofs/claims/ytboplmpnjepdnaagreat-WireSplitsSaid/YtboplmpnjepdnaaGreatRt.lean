/-
  The ground of the walks that a program writes: what a frame's slots hold ('Env'), what the call's own memory holds ('Sep'), and one law for each kind of operation. No program in sight.
-/
import Derived.Test.YtboplmpnjepdnaaGreatSl
import Derived.Deep.LoopGhost
namespace Go
namespace Rt
open Go.RowKit

/-! ### What slots hold -/
def look (t : Nat) : List (Nat × Value) → Option Value
  | [] => none
  | (u, v) :: r => match Nat.beq t u with
    | true => some v
    | false => look t r
structure Env (N : Nat) (a : Act) (env : List (Nat × Value)) : Prop where
  size : a.tmps.size = N
  defers : a.defers = []
  get : ∀ t v, look t env = some v → a.tmps[t]? = some v
def opv (env : List (Nat × Value)) : Operand → Option Value
  | .tmp t => look t env
  | .const v => some v
  | .global g => some (.pointer (some ⟨g, 0, none⟩))
  | .func f => some (.func (.func f) #[] #[])
def Sub (env : List (Nat × Value)) : List (Nat × Value) → Prop
  | [] => True
  | (t, v) :: r => look t env = some v ∧ Sub env r

section
variable {N : Nat} {a : Act} {env sl : List (Nat × Value)}
theorem Env.eval (h : Env N a env) {x : Operand} {v : Value} (hx : opv env x = some v) : a.eval x = v := by
  cases x with
  | tmp t => simp only [opv] at hx; simp [Act.eval, h.get t v hx]
  | const u => simpa [opv, Act.eval] using hx
  | global g => simpa [opv, Act.eval] using hx
  | func f => simpa [opv, Act.eval] using hx
theorem beq_false {t u : Nat} (h : Nat.beq t u = false) : t ≠ u := by
  intro e; subst e; simp at h
theorem Env.put (h : Env N a env) {d : Nat} (hd : Nat.blt d N = true) (v : Value) : Env N (a.put (some d) v) ((d, v) :: env) := by
  have hd' : d < N := by simpa using hd
  refine ⟨by simpa [Act.put] using h.size, h.defers, fun t u ht => ?_⟩
  simp only [look] at ht
  cases hb : Nat.beq t d with
  | true =>
    rw [hb] at ht
    obtain rfl : t = d := Nat.eq_of_beq_eq_true hb
    simp only [Option.some.injEq] at ht
    subst ht
    simp [Act.put, h.size, hd']
  | false =>
    rw [hb] at ht
    have := h.get t u ht
    simp only [Act.put]
    rw [Array.getElem?_setIfInBounds_ne (Ne.symm (beq_false hb))]
    exact this
theorem Env.sel (h : Env N a env) (hs : Sub env sl) : Env N a sl := by
  refine ⟨h.size, h.defers, fun t u ht => ?_⟩
  induction sl with
  | nil => simp [look] at ht
  | cons p r ih =>
    obtain ⟨t', v'⟩ := p
    simp only [look] at ht
    cases hb : Nat.beq t t' with
    | true =>
      rw [hb] at ht
      obtain rfl : t = t' := Nat.eq_of_beq_eq_true hb
      simp only [Option.some.injEq] at ht
      subst ht
      exact h.get _ _ hs.1
    | false => rw [hb] at ht; exact ih hs.2 ht
/-- A slot whose Bool has been decided. -/
theorem Env.bool (h : Env N a env) {t : Nat} {b c : Bool} (ht : look t env = some (.bool b)) (hb : b = c) : Env N a ((t, .bool c) :: env) := by
  subst hb
  exact ⟨h.size, h.defers, fun u v hu => by
    simp only [look] at hu
    cases hbq : Nat.beq u t with
    | true =>
      rw [hbq] at hu
      obtain rfl : u = t := Nat.eq_of_beq_eq_true hbq
      simp only [Option.some.injEq] at hu
      subst hu
      exact h.get _ _ ht
    | false => rw [hbq] at hu; exact h.get _ _ hu⟩
/-- Another spelling of what a slot holds. -/
theorem Env.re (h : Env N a env) {t : Nat} {v v' : Value} (ht : look t env = some v) (hv : v = v') : Env N a ((t, v') :: env) := by
  subst hv
  exact ⟨h.size, h.defers, fun u x hu => by
    simp only [look] at hu
    cases hbq : Nat.beq u t with
    | true =>
      rw [hbq] at hu
      obtain rfl : u = t := Nat.eq_of_beq_eq_true hbq
      simp only [Option.some.injEq] at hu
      subst hu
      exact h.get _ _ ht
    | false => rw [hbq] at hu; exact h.get _ _ hu⟩
end

/-! ### Operations that touch no memory -/
def evalPure {α : Type} (P : Program) : Sem α → Option α
  | .pure a => some a
  | .program k => evalPure P (k P)
  | _ => none
theorem evalPure_run {α : Type} {P : Program} {s : Sem α} {r : α} (h : evalPure P s = some r) (w : World) : s.run P w = .ok r w := by
  induction s with
  | pure a => simp only [evalPure, Option.some.injEq] at h; subst h; rfl
  | program k ih => simp only [evalPure] at h; simp only [Sem.run]; exact ih P h
  | _ => simp [evalPure] at h

def envρ (env : List (Nat × Value)) (x : Operand) : Value := (opv env x).getD undef
def known (env : List (Nat × Value)) : List Operand → Bool
  | [] => true
  | x :: r => (match opv env x with | some _ => true | none => false) && known env r
def isSelect : Op → Bool
  | .select .. => true
  | _ => false
/-- The operation's run, off the slots alone. -/
def evalOp (P : Program) (env : List (Nat × Value)) (o : Oper) : Option Next :=
  match known env o.op.operands.toList && !isSelect o.op with
  | true => evalPure P (execOp (envρ env) o)
  | false => none
theorem known_mem {env : List (Nat × Value)} : ∀ {l : List Operand}, known env l = true → ∀ x ∈ l, ∃ v, opv env x = some v
  | [], _, x, hx => by cases hx
  | y :: r, h, x, hx => by
    simp only [known, Bool.and_eq_true] at h
    rcases List.mem_cons.1 hx with rfl | hx
    · cases hv : opv env x with
      | some v => exact ⟨v, rfl⟩
      | none => rw [hv] at h; simp at h
    · exact known_mem h.2 x hx
theorem evalOp_run {P : Program} {N : Nat} {a : Act} {env : List (Nat × Value)} {o : Oper} {r : Next} (hE : Env N a env) (h : evalOp P env o = some r) (w : World) :
    (execOp a.eval o).run P w = .ok r w := by
  unfold evalOp at h
  split at h
  · rename_i hk
    simp only [Bool.and_eq_true, Bool.not_eq_true'] at hk
    have hc : execOp a.eval o = execOp (envρ env) o := by
      refine execOp_congr o (fun cs b e => ?_) fun x hx => ?_
      · rw [e] at hk; simp [isSelect] at hk
      · obtain ⟨v, hv⟩ := known_mem hk.1 x (by simpa using hx)
        rw [hE.eval hv]; simp [envρ, hv]
    rw [hc]
    exact evalPure_run h w
  · cases h

/-! ### Guards -/
/-- What an operation's guard says, off the slots. -/
def gate (ops : List Oper) (env : List (Nat × Value)) (o : Oper) : Option Bool :=
  match o.guard with
  | none => some true
  | some (j, want) => match (ops[j]?).bind (·.dst) with
    | none => none
    | some d => match look d env with
      | some (.bool b) => some (b == want)
      | some (.tuple _) => some false
      | _ => none
theorem gate_wanted {N : Nat} {a : Act} {env : List (Nat × Value)} {ops : List Oper} {o : Oper} {b : Bool} (hE : Env N a env) (h : gate ops env o = some b) :
    Region.wanted o (yielded ops.toArray a.tmps) = b := by
  unfold gate at h
  unfold Region.wanted
  split at h
  · rename_i hg; rw [hg]; simpa using h
  · rename_i j want hg
    rw [hg]
    simp only
    split at h
    · cases h
    · rename_i d hd
      have hd' : (ops.toArray[j]?).bind (·.dst) = some d := by simpa using hd
      unfold yielded
      rw [hd']
      simp only [Option.bind_some]
      cases hl : look d env with
      | none => rw [hl] at h; cases h
      | some x =>
        rw [hl] at h
        rw [hE.get _ _ hl]
        cases x <;> simp only [Option.some.injEq, reduceCtorEq] at h ⊢
        · subst h; rename_i b'; cases b' <;> cases want <;> rfl
        · subst h; cases want <;> rfl

section
variable {P : Program} {ops : List Oper} {Q : Exit → Act → World → Prop} {a : Act} {w w' : World} {rest : List Oper} {o : Oper} {N : Nat} {env : List (Nat × Value)}
/-- An operation that yields a value, whatever it does to the world. -/
theorem st_run (hE : Env N a env) (hg : gate ops env o = some true) (d : Nat) (hd : o.dst = some d) (hN : Nat.blt d N = true) (v : Value) (hr : (execOp a.eval o).run P w = .ok (.value v) w')
    (h : ∀ a', Env N a' ((d, v) :: env) → wpList P ops.toArray Q rest a' w') : wpList P ops.toArray Q (o :: rest) a w := by
  refine wpList_step fun K hK => ?_
  rw [if_pos (gate_wanted hE hg)]
  unfold Oper.wp
  rw [hr]
  show K (a.put o.dst v) w'
  rw [hd]
  exact hK _ _ (h _ (hE.put hN v))
/-- .. a store. -/
theorem st_skip (hE : Env N a env) (hg : gate ops env o = some true) (hd : o.dst = none) (hr : (execOp a.eval o).run P w = .ok .skip w')
    (h : wpList P ops.toArray Q rest a w') : wpList P ops.toArray Q (o :: rest) a w := by
  refine wpList_step fun K hK => ?_
  rw [if_pos (gate_wanted hE hg)]
  unfold Oper.wp
  rw [hr]
  show K (a.put o.dst undef) w'
  rw [hd]
  exact hK _ _ h
/-- .. no memory. -/
theorem st_pure (hE : Env N a env) (hg : gate ops env o = some true) (d : Nat) (hd : o.dst = some d) (hN : Nat.blt d N = true) (v : Value) (hv : evalOp P env o = some (.value v))
    (h : ∀ a', Env N a' ((d, v) :: env) → wpList P ops.toArray Q rest a' w) : wpList P ops.toArray Q (o :: rest) a w :=
  st_run hE hg d hd hN v (evalOp_run hE hv w) h
/-- .. its guard says no. -/
theorem st_not (hE : Env N a env) (hg : gate ops env o = some false) (d : Nat) (hd : o.dst = some d) (hN : Nat.blt d N = true)
    (h : ∀ a', Env N a' ((d, undef) :: env) → wpList P ops.toArray Q rest a' w) : wpList P ops.toArray Q (o :: rest) a w := by
  refine wpList_step fun K hK => ?_
  have hw := gate_wanted hE hg
  rw [if_neg (by rw [hw]; exact Bool.false_ne_true), hd]
  exact hK _ _ (h _ (hE.put hN undef))
/-- .. a call. -/
theorem st_call (hE : Env N a env) (hg : gate ops env o = some true) (d : Nat) (hd : o.dst = some d) (hN : Nat.blt d N = true) (f : FuncId) (args : Array Value) (hv : evalOp P env o = some (.enter f args))
    (R : Value → World → Prop) (hc : Calls P f args w fun e w' => ∃ v, e = .returned v ∧ R v w')
    (h : ∀ a' v w', R v w' → Env N a' ((d, v) :: env) → wpList P ops.toArray Q rest a' w') : wpList P ops.toArray Q (o :: rest) a w := by
  refine wpList_step fun K hK => ?_
  rw [if_pos (gate_wanted hE hg)]
  unfold Oper.wp
  rw [evalOp_run hE hv w]
  simp only [Oper.upon]
  refine hc.mono fun e w'' ⟨v, he, hR⟩ => ?_
  subst he
  show K (a.put o.dst v) w''
  rw [hd]
  exact hK _ _ (h _ _ _ hR (hE.put hN v))
theorem st_nil (h : Q .normal a w) : wpList P ops.toArray Q [] a w := h
/-- The ways through the first operations meet again. -/
theorem st_cut (n : Nat) (J : Act → World → Prop) (h1 : wpList P ops.toArray (Exit.then J Q) (rest.take n) a w) (h2 : ∀ a w, J a w → wpList P ops.toArray Q (rest.drop n) a w) :
    wpList P ops.toArray Q rest a w := by
  have key : ∀ (l1 l2 : List Oper) (a : Act) (w : World), wpList P ops.toArray (Exit.then J Q) l1 a w → (∀ a w, J a w → wpList P ops.toArray Q l2 a w) → wpList P ops.toArray Q (l1 ++ l2) a w := by
    intro l1
    induction l1 with
    | nil => intro l2 a w h1 h2; exact h2 _ _ h1
    | cons o l1 ih =>
      intro l2 a w h1 h2
      simp only [List.cons_append]
      unfold wpList at h1 ⊢
      split
      · rename_i hw
        rw [if_pos hw] at h1
        exact h1.imp (fun h => Oper.wp_out (fun a w hk => ih l2 a w hk h2) (fun _ _ _ h => h) (fun h => h) h) (fun h => h)
      · rename_i hw
        rw [if_neg hw] at h1
        exact ih l2 _ _ h1 h2
  have := key (rest.take n) (rest.drop n) a w h1 h2
  rwa [List.take_append_drop] at this
end

/-! ### The call's own memory -/
inductive Res where
  /-- a variable of the call's own -/
  | box (b : Nat) (T : TypeId) (cs : List Value)
  /-- a row that a slice of the call's own begins -/
  | row (e : TypeId) (c : Nat) (A : Option Addr) (n cap : Nat) (rows : List (List Value))
  /-- memory that is only read -/
  | ro (F : Nat → Prop) (φ : World → Prop)
def Res.fp : Res → Nat → Prop
  | .box b _ _, k => k = b
  | .row _ _ A _ _ _, k => ∃ a, A = some a ∧ k = a.block
  | .ro F _, k => F k
def Res.excl : Res → Prop
  | .ro .. => False
  | _ => True
/-- What 'ro' memory says hangs on its blocks alone. -/
def Local (F : Nat → Prop) (φ : World → Prop) : Prop := ∀ w w', w.heap.size ≤ w'.heap.size → (∀ k, F k → w'.heap[k]? = w.heap[k]?) → φ w → φ w'
def Res.holds (w : World) : Res → Prop
  | .box b T cs => w.heap[b]? = some (.cells cs.toArray T (0, 0))
  | .row e c A n cap rows => w.ownsRow 0 e c (.slice A n cap) n rows.flatten ∧ rows.length = n ∧ ∀ r ∈ rows, r.length = c
  | .ro F φ => φ w ∧ Local F φ ∧ ∀ k, F k → k < w.heap.size
def Apart (r s : Res) : Prop := (r.excl ∨ s.excl) → ∀ k, r.fp k → ¬ s.fp k
theorem Apart.symm {r s : Res} (h : Apart r s) : Apart s r := fun he k h1 h2 => h (he.symm) k h2 h1
/-- The streams are as they were, and no block has gone. -/
structure Grow (w w' : World) : Prop where
  os : w'.os = w.os
  tape : w'.tape = w.tape
  output : w'.output = w.output
  size : w.heap.size ≤ w'.heap.size
theorem Grow.refl (w : World) : Grow w w := ⟨rfl, rfl, rfl, Nat.le_refl _⟩
theorem Grow.trans {a b c : World} (h : Grow a b) (k : Grow b c) : Grow a c := ⟨k.os.trans h.os, k.tape.trans h.tape, k.output.trans h.output, Nat.le_trans h.size k.size⟩
theorem Grow.of_below {B : Nat} {a b : World} (h : Below B a b) : Grow a b := ⟨h.os, h.tape, h.output, h.size⟩
/-- Of what was there, the blocks of Bs alone may have turned ('Bs': what pointers that came in point to). -/
structure Chg (Bs : List Nat) (w w' : World) : Prop where
  grow : Grow w w'
  block : ∀ k, k < w.heap.size → k ∉ Bs → w'.heap[k]? = w.heap[k]?
theorem Chg.below {w w' : World} (h : Chg [] w w') : Below w.heap.size w w' := ⟨h.grow.os, h.grow.tape, h.grow.output, h.grow.size, fun k hk => h.block k hk (by simp)⟩
theorem Chg.of_below {Bs : List Nat} {w w' : World} (h : Below w.heap.size w w') : Chg Bs w w' := ⟨Grow.of_below h, fun k hk _ => h.block k hk⟩
structure Sep (Bs : List Nat) (w0 w : World) (L : List Res) : Prop where
  chg : Chg Bs w0 w
  hold : ∀ r ∈ L, r.holds w
  own : ∀ r ∈ L, r.excl → ∀ k, r.fp k → w0.heap.size ≤ k ∨ k ∈ Bs
  apart : L.Pairwise Apart

theorem Res.holds_lt {w : World} {r : Res} (h : r.holds w) : ∀ k, r.fp k → k < w.heap.size := by
  intro k hk
  cases r with
  | box b T cs =>
    simp only [Res.fp] at hk; subst hk
    rcases Nat.lt_or_ge k w.heap.size with h' | h'
    · exact h'
    · simp only [Res.holds] at h; rw [Array.getElem?_eq_none h'] at h; cases h
  | row e c A n cap xs =>
    obtain ⟨a, rfl, rfl⟩ := hk
    exact (World.ownsRow.lt h.1 _ rfl).2
  | ro F φ => exact h.2.2 k hk
/-- A resource whose blocks have not turned still holds. -/
theorem Res.holds_keep {w w' : World} {r : Res} (h : r.holds w) (hs : w.heap.size ≤ w'.heap.size) (hk : ∀ k, r.fp k → w'.heap[k]? = w.heap[k]?) : r.holds w' := by
  cases r with
  | box b T cs => simp only [Res.holds] at h ⊢; rw [hk b rfl]; exact h
  | row e c A n cap xs =>
    obtain ⟨h, hrest⟩ := h
    refine ⟨⟨h.1, ?_⟩, hrest⟩
    rcases h.2 with h2 | ⟨g, cap', cur, hv, hg, hh, r⟩
    · exact .inl h2
    · refine .inr ⟨g, cap', cur, hv, hg, ?_, r⟩
      injection hv with hA
      rw [hk g ⟨_, hA, rfl⟩]; exact hh
  | ro F φ => exact ⟨h.2.1 w w' hs hk h.1, h.2.1, fun k hF => Nat.lt_of_lt_of_le (h.2.2 k hF) hs⟩

section
variable {Bs : List Nat} {w0 w w' : World} {L : List Res}
theorem Sep.start (Bs : List Nat) (w : World) : Sep Bs w w [] := ⟨Chg.of_below (Below.refl _ _), (fun _ h => nomatch h), (fun _ h => nomatch h), List.Pairwise.nil⟩
theorem Sep.size (h : Sep Bs w0 w L) : w0.heap.size ≤ w.heap.size := h.chg.grow.size
/-- What makes memory alone leaves everything as it was. -/
theorem Sep.ext (h : Sep Bs w0 w L) (hx : Ext w w') : Sep Bs w0 w' L := by
  have hb := hx.below
  refine ⟨⟨h.chg.grow.trans (Grow.of_below hb), fun k hk hn => (hb.block k (Nat.lt_of_lt_of_le hk h.size)).trans (h.chg.block k hk hn)⟩, fun r hr => ?_, h.own, h.apart⟩
  exact Res.holds_keep (h.hold r hr) hb.size fun k hk => hb.block k (Res.holds_lt (h.hold r hr) k hk)
theorem Sep.drew (h : Sep Bs w0 w L) : Sep Bs w0 w.drew L := h.ext (Ext.refl w).drew
/-- A new resource, all of its blocks new. -/
theorem Sep.add (h : Sep Bs w0 w L) (hx : Ext w w') {r : Res} (hr : r.holds w') (hf : ∀ k, r.fp k → w.heap.size ≤ k) : Sep Bs w0 w' (r :: L) := by
  have h' := h.ext hx
  refine ⟨h'.chg, fun s hs => ?_, fun s hs he k hk => ?_, ?_⟩
  · rcases List.mem_cons.1 hs with rfl | hs
    · exact hr
    · exact h'.hold s hs
  · rcases List.mem_cons.1 hs with rfl | hs
    · exact .inl (Nat.le_trans h.size (hf k hk))
    · exact h'.own s hs he k hk
  · refine List.Pairwise.cons (fun s hs _ k hk hk' => ?_) h'.apart
    have h1 := Res.holds_lt (h.hold s hs) k hk'
    have h2 := hf k hk
    omega
/-- Memory that is only read, below all that the call has made. -/
theorem Sep.read (h : Sep Bs w0 w L) {F : Nat → Prop} {φ : World → Prop} (hφ : φ w) (hl : Local F φ) (hF : ∀ k, F k → k < w0.heap.size ∧ k ∉ Bs) : Sep Bs w0 w (.ro F φ :: L) := by
  refine ⟨h.chg, fun s hs => ?_, fun s hs he k hk => ?_, ?_⟩
  · rcases List.mem_cons.1 hs with rfl | hs
    · exact ⟨hφ, hl, fun k hk => Nat.lt_of_lt_of_le (hF k hk).1 h.size⟩
    · exact h.hold s hs
  · rcases List.mem_cons.1 hs with rfl | hs
    · cases he
    · exact h.own s hs he k hk
  · refine List.Pairwise.cons (fun s hs he k hk hk' => ?_) h.apart
    have hse : s.excl := he.resolve_left (fun x => x)
    have h2 := hF k hk
    rcases h.own s hs hse k hk' with h1 | h1
    · omega
    · exact h2.2 h1
/-- The resources with these numbers. -/
def pick (L : List Res) : List Nat → List Res
  | [] => []
  | i :: r => match L[i]? with
    | some x => x :: pick L r
    | none => pick L r
theorem mem_pick {is : List Nat} {r : Res} (h : r ∈ pick L is) : ∃ i ∈ is, L[i]? = some r := by
  induction is with
  | nil => cases h
  | cons i is ih =>
    simp only [pick] at h
    split at h
    · rename_i x hx
      rcases List.mem_cons.1 h with rfl | h
      · exact ⟨i, by simp, hx⟩
      · obtain ⟨j, hj, hr⟩ := ih h; exact ⟨j, List.mem_cons_of_mem _ hj, hr⟩
    · obtain ⟨j, hj, hr⟩ := ih h; exact ⟨j, List.mem_cons_of_mem _ hj, hr⟩
theorem Sep.apart_at (h : Sep Bs w0 w L) {i j : Nat} {r s : Res} (hi : L[i]? = some r) (hj : L[j]? = some s) (hne : i ≠ j) : Apart r s := by
  obtain ⟨h1, rfl⟩ := List.getElem?_eq_some_iff.1 hi
  obtain ⟨h2, rfl⟩ := List.getElem?_eq_some_iff.1 hj
  rcases Nat.lt_or_gt_of_ne hne with hl | hl
  · exact List.pairwise_iff_getElem.1 h.apart i j h1 h2 hl
  · exact (List.pairwise_iff_getElem.1 h.apart j i h2 h1 hl).symm
def nodupB : List Nat → Bool
  | [] => true
  | i :: r => !(r.contains i) && nodupB r
theorem Sep.pick (h : Sep Bs w0 w L) (is : List Nat) (hn : nodupB is = true) {L' : List Res} (hL : Rt.pick L is = L') : Sep Bs w0 w L' := by
  subst hL
  refine ⟨h.chg, fun r hr => ?_, fun r hr => ?_, ?_⟩
  · obtain ⟨i, _, hi⟩ := mem_pick hr; exact h.hold r (List.mem_of_getElem? hi)
  · obtain ⟨i, _, hi⟩ := mem_pick hr; exact h.own r (List.mem_of_getElem? hi)
  · induction is with
    | nil => exact .nil
    | cons i is ih =>
      simp only [nodupB, Bool.and_eq_true, Bool.not_eq_true'] at hn
      simp only [Rt.pick]
      split
      · rename_i x hx
        refine List.Pairwise.cons (fun s hs => ?_) (ih hn.2)
        obtain ⟨j, hj, hjs⟩ := mem_pick hs
        refine h.apart_at hx hjs fun e => ?_
        subst e
        have := hn.1
        simp at this
        exact this hj
      · exact ih hn.2
/-- One resource turns: its blocks were its own or are new; nothing else has turned. -/
theorem Sep.turn (h : Sep Bs w0 w L) (i : Nat) {r r' : Res} (hi : L[i]? = some r) (he : r.excl) (hr : r'.holds w')
    (hb : Grow w w') (hk : ∀ k, k < w.heap.size → ¬ r.fp k → w'.heap[k]? = w.heap[k]?) (hf : ∀ k, r'.fp k → r.fp k ∨ w.heap.size ≤ k) : Sep Bs w0 w' (L.set i r') := by
  have hlt := (List.getElem?_eq_some_iff.1 hi).1
  have other : ∀ j s, L[j]? = some s → j ≠ i → s.holds w' := fun j s hj hne => by
    refine Res.holds_keep (h.hold s (List.mem_of_getElem? hj)) hb.size fun k hks => ?_
    refine hk k (Res.holds_lt (h.hold s (List.mem_of_getElem? hj)) k hks) fun hrk => ?_
    exact h.apart_at hi hj (Ne.symm hne) (.inl he) k hrk hks
  have mem : ∀ s ∈ L.set i r', (s = r') ∨ ∃ j, L[j]? = some s ∧ j ≠ i := fun s hs => by
    obtain ⟨j, hj⟩ := List.mem_iff_getElem?.1 hs
    rw [List.getElem?_set] at hj
    split at hj
    · first | exact .inl (Option.some.inj hj).symm | (rw [if_pos (by omega)] at hj; exact .inl (Option.some.inj hj).symm)
    · rename_i hne; exact .inr ⟨j, hj, Ne.symm hne⟩
  have own' : ∀ k, r'.fp k → w0.heap.size ≤ k ∨ k ∈ Bs := fun k hk' => by
    rcases hf k hk' with h1 | h1
    · exact h.own r (List.mem_of_getElem? hi) he k h1
    · exact .inl (Nat.le_trans h.size h1)
  have far : ∀ j s, L[j]? = some s → j ≠ i → ∀ k, r'.fp k → ¬ s.fp k := fun j s hj hne k hk' hs => by
    rcases hf k hk' with h1 | h1
    · exact h.apart_at hi hj (Ne.symm hne) (.inl he) k h1 hs
    · have := Res.holds_lt (h.hold s (List.mem_of_getElem? hj)) k hs; omega
  refine ⟨⟨h.chg.grow.trans hb, fun k hk1 hn => (hk k (Nat.lt_of_lt_of_le hk1 h.size) fun hr1 => ?_).trans (h.chg.block k hk1 hn)⟩, fun s hs => ?_, fun s hs hse k hk' => ?_, ?_⟩
  · rcases h.own r (List.mem_of_getElem? hi) he k hr1 with h1 | h1
    · omega
    · exact hn h1
  · rcases mem s hs with rfl | ⟨j, hj, hne⟩
    · exact hr
    · exact other j s hj hne
  · rcases mem s hs with rfl | ⟨j, hj, hne⟩
    · exact own' k hk'
    · exact h.own s (List.mem_of_getElem? hj) hse k hk'
  · rw [List.pairwise_iff_getElem]
    intro j1 j2 h1 h2 hlt12
    have e1 : (L.set i r')[j1]? = some (L.set i r')[j1] := List.getElem?_eq_getElem h1
    have e2 : (L.set i r')[j2]? = some (L.set i r')[j2] := List.getElem?_eq_getElem h2
    generalize (L.set i r')[j1] = x at e1 ⊢
    generalize (L.set i r')[j2] = y at e2 ⊢
    rw [List.getElem?_set] at e1 e2
    by_cases c1 : i = j1
    · rw [if_pos c1, if_pos (by omega)] at e1
      rw [if_neg (by omega)] at e2
      obtain rfl := Option.some.inj e1
      exact fun _ k hk1 hk2 => far j2 y e2 (by omega) k hk1 hk2
    · rw [if_neg c1] at e1
      by_cases c2 : i = j2
      · rw [if_pos c2, if_pos (by omega)] at e2
        obtain rfl := Option.some.inj e2
        exact fun _ k hk1 hk2 => far j1 x e1 (by omega) k hk2 hk1
      · rw [if_neg c2] at e2
        exact h.apart_at e1 e2 (by omega)
end
end Rt
end Go
