/-
  More words of the walks that a program writes: posts unwound, slices that come in, loads, elements, appends, calls. No program in sight.
-/
import Derived.Test.YtboplmpnjepdnaaGreatGo
import Derived.ChangeKeysEq
namespace Go
namespace Rt
open Go.RowKit

/-! ### Posts -/
section
variable {K : Act → World → Prop} {Q : Exit → Act → World → Prop} {a : Act} {w : World} {id i : Nat}
theorem n_then (h : K a w) : Exit.then K Q .normal a w := h
theorem e_then (h : Q (.exit i) a w) : Exit.then K Q (.exit i) a w := h
theorem r_then (h : Q .ret a w) : Exit.then K Q .ret a w := h
theorem n_in (h : Q .normal a w) : Exit.inBlock id Q .normal a w := h
theorem e_in (h : Q .normal a w) : Exit.inBlock id Q (.exit id) a w := by simp only [Exit.inBlock, if_true]; exact h
theorem o_in (hn : Nat.beq i id = false) (h : Q (.exit i) a w) : Exit.inBlock id Q (.exit i) a w := by
  simp only [Exit.inBlock]
  rw [if_neg (beq_false hn)]
  exact h
theorem r_in (h : Q .ret a w) : Exit.inBlock id Q .ret a w := h
end

/-! ### Slices that come in -/
/-- What is known of a slice that can be read. -/
def Rd (F : Nat → Prop) (c : Nat) (A : Option Addr) (n cap : Nat) (rows : List (List Value)) (w : World) : Prop := SlF F c A n rows w ∧ n ≤ cap
structure In (F : Nat → Prop) (c : Nat) (A : Option Addr) (n cap : Nat) (rows : List (List Value)) (w : World) : Prop where
  rd : Rd F c A n cap rows w
  lt : ∀ k, F k → k < w.heap.size
inductive RdOf : Res → Nat → Option Addr → Nat → Nat → List (List Value) → Prop
  | row {e c A n cap rows} : RdOf (.row e c A n cap rows) c A n cap rows
  | ro {F c A n cap rows} : RdOf (.ro F (Rd F c A n cap rows)) c A n cap rows

section
variable {P : Program} {ops : List Oper} {Q : Exit → Act → World → Prop} {a : Act} {w w0 w' : World} {rest : List Oper} {o : Oper} {N : Nat} {env : List (Nat × Value)} {Bs : List Nat} {L L' : List Res}
  {F : Nat → Prop} {c n cap : Nat} {A : Option Addr} {rows : List (List Value)} {ρ : Operand → Value}
theorem Rd.local : Local F (Rd F c A n cap rows) := fun w w' h1 h2 h => ⟨SlF.local w w' h1 h2 h.1, h.2⟩
theorem In.ext (h : In F c A n cap rows w) (hx : Ext w w') : In F c A n cap rows w' := by
  have hb := hx.below
  exact ⟨Rd.local w w' hb.size (fun k hk => hb.block k (h.lt k hk)) h.rd, fun k hk => Nat.lt_of_lt_of_le (h.lt k hk) hb.size⟩
theorem In.nil (c : Nat) (w : World) : In (fun _ => False) c none 0 0 [] w := ⟨⟨SlF.nil _ _ _ _, Nat.le_refl _⟩, fun _ h => h.elim⟩
theorem Sep.in_ {i : Nat} {r : Res} (h : Sep Bs w0 w L) (hi : L[i]? = some r) (hr : RdOf r c A n cap rows) : In r.fp c A n cap rows w := by
  have hm := List.mem_of_getElem? hi
  refine ⟨?_, fun k hk => Res.holds_lt (h.hold _ hm) k hk⟩
  cases hr with
  | row => exact ⟨row_reads (h.hold _ hm), (h.row_cap hi).1⟩
  | ro => exact (h.hold _ hm).1
/-- A slice that has come in. -/
theorem Sep.lent (h : Sep [] w w L) (hin : In F c A n cap rows w) : Sep [] w w (.ro F (Rd F c A n cap rows) :: L) :=
  h.read hin.rd Rd.local fun k hk => ⟨hin.lt k hk, by simp⟩
theorem Sep.lentB {b : Nat} (h : Sep [b] w w L) (hin : In F c A n cap rows w) (hb : ¬ F b) : Sep [b] w w (.ro F (Rd F c A n cap rows) :: L) :=
  h.read hin.rd Rd.local fun k hk => ⟨hin.lt k hk, by simp; rintro rfl; exact hb hk⟩
/-- A slice that is nil is a row of the call's own, of no block. -/
theorem Sep.nil_row (h : Sep Bs w0 w L) (e c : Nat) : Sep Bs w0 w (.row e c none 0 0 [] :: L) := by
  refine h.add (Ext.refl w) ⟨⟨by simp, .inl ⟨rfl, rfl⟩⟩, rfl, fun _ h => nomatch h⟩ fun k hk => ?_
  obtain ⟨a, ha, _⟩ := hk
  cases ha
/-- A cut of what is only read. -/
theorem Sep.ro_cut2 {i : Nat} (h : Sep Bs w0 w L) (hi : L[i]? = some (.ro F (Rd F c A n cap rows))) {lo hi' : Nat} (h1 : lo ≤ hi') (h2 : hi' ≤ n) : Sep Bs w0 w (.ro F (Rd F c (cutA A c lo cap) (hi' - lo) (cap - lo) ((rows.take hi').drop lo)) :: L) := by
  have hh := (h.hold _ (List.mem_of_getElem? hi)).1
  exact h.ro_cut hi (ψ := Rd F c (cutA A c lo cap) (hi' - lo) (cap - lo) ((rows.take hi').drop lo)) ⟨hh.1.cut hh.2 h1 h2, by have := hh.2; omega⟩ Rd.local
theorem Sep.freeze2 {i e : Nat} (h : Sep Bs w0 w L) (hi : L[i]? = some (.row e c A n cap rows)) : Sep Bs w0 w (L.set i (.ro (rowF A) (Rd (rowF A) c A n cap rows))) := by
  have hh := h.hold _ (List.mem_of_getElem? hi)
  refine h.turn i hi trivial ⟨⟨row_reads hh, (h.row_cap hi).1⟩, Rd.local, fun k hk => Res.holds_lt hh k hk⟩ (Grow.refl _) (fun _ _ _ => rfl) (fun k hk => .inl hk)
theorem SlF.len {F : Nat → Prop} (h : SlF F c A n rows w) : rows.length = n := h.1

/-! ### Pointers that come in -/
theorem Sep.borrow {b : Nat} {T : TypeId} {cs : List Value} (h : w.heap[b]? = some (.cells cs.toArray T (0, 0))) : Sep [b] w w [.box b T cs] := by
  refine ⟨Chg.of_below (Below.refl _ _), fun r hr => ?_, fun r hr _ k hk => ?_, .cons (fun _ h => nomatch h) .nil⟩
  · obtain rfl := List.mem_singleton.1 hr; exact h
  · obtain rfl := List.mem_singleton.1 hr
    simp only [Res.fp] at hk; subst hk
    exact .inr (by simp)
theorem Sep.box_at {i b : Nat} {T : TypeId} {cs : List Value} (h : Sep Bs w0 w L) (hi : L[i]? = some (.box b T cs)) : w.heap[b]? = some (.cells cs.toArray T (0, 0)) := h.hold _ (List.mem_of_getElem? hi)
/-- A call that may turn one variable of the caller's own. -/
theorem Sep.lend {i b : Nat} {T : TypeId} {cs cs' : List Value} (h : Sep Bs w0 w L) (hi : L[i]? = some (.box b T cs)) (h' : Sep [b] w w' (.box b T cs' :: L')) (hn : noRo L' = true) : Sep Bs w0 w' (L' ++ L.set i (.box b T cs')) := by
  have hg := h'.chg.grow
  have h1 : Sep Bs w0 w' (L.set i (.box b T cs')) := h.turn i hi trivial (h'.hold _ (by simp)) hg (fun k hk hkb => h'.chg.block k hk (fun hm => hkb (show k = b by simpa using hm))) (fun k hk => .inl hk)
  have hex := noRo_excl hn
  have hown : ∀ r ∈ L', ∀ k, r.fp k → w.heap.size ≤ k := by
    intro r hr k hk
    rcases h'.own r (List.mem_cons_of_mem _ hr) (hex r hr) k hk with h2 | h2
    · exact h2
    · have hkb : k = b := by simpa using h2
      subst hkb
      exact absurd hk (List.rel_of_pairwise_cons h'.apart hr (.inl trivial) k rfl)
  refine ⟨h1.chg, fun r hr => ?_, fun r hr hre k hk => ?_, ?_⟩
  · rcases List.mem_append.1 hr with hr | hr
    · exact h'.hold r (List.mem_cons_of_mem _ hr)
    · exact h1.hold r hr
  · rcases List.mem_append.1 hr with hr | hr
    · exact .inl (Nat.le_trans h.size (hown r hr k hk))
    · exact h1.own r hr hre k hk
  · refine List.pairwise_append.2 ⟨(List.pairwise_cons.1 h'.apart).2, h1.apart, fun r hr s hs _ k hk hk' => ?_⟩
    have h2 := hown r hr k hk
    obtain ⟨j, hj⟩ := List.mem_iff_getElem?.1 hs
    rw [List.getElem?_set] at hj
    have hlt : ∀ s', s' ∈ L → s'.fp k → k < w.heap.size := fun s' hs' hk' => Res.holds_lt (h.hold s' hs') k hk'
    have hbox := Res.holds_lt (h.hold _ (List.mem_of_getElem? hi))
    split at hj
    · split at hj
      · obtain rfl := Option.some.inj hj
        have := hbox k hk'
        omega
      · cases hj
    · have := hlt s (List.mem_of_getElem? hj) hk'
      omega

/-! ### Lists -/
theorem room_len {α : Type} {bytes : Nat} {xs ys r : List α} (h : room bytes xs ys = some r) : xs.length + ys.length = r.length := by
  obtain ⟨_, _, rfl⟩ := room_some h; simp
theorem room_map {α β : Type} {bytes : Nat} {xs ys r : List α} (h : room bytes xs ys = some r) (f : α → β) : xs.map f ++ ys.map f = r.map f := by
  obtain ⟨_, _, rfl⟩ := room_some h; simp
theorem make_len {α : Type} {bytes : Nat} {z : α} {n : Int} {r : List α} (h : makeI bytes z n = some r) : n.toNat = r.length := by
  obtain ⟨_, _, _, rfl⟩ := makeI_some h; simp
theorem make_map {α β : Type} {bytes : Nat} {z : α} {n : Int} {r : List α} (h : makeI bytes z n = some r) (f : α → β) : List.replicate n.toNat (f z) = r.map f := by
  obtain ⟨_, _, _, rfl⟩ := makeI_some h; simp
theorem set_len {α : Type} (xs : List α) (i : Nat) (x : α) : xs.length = (xs.set i x).length := by simp
theorem set_map {α β : Type} (xs : List α) (f : α → β) (i : Nat) (x : α) : (xs.map f).set i (f x) = (xs.set i x).map f := by simp [List.map_set]
theorem sub_len {α : Type} {xs r : List α} {lo hi : Int} (h : subI xs lo hi = some r) : hi.toNat - lo.toNat = r.length := by
  obtain ⟨_, _, _, rfl⟩ := subI_some h; simp; omega
theorem sub_map {α β : Type} {xs r : List α} {lo hi : Int} (h : subI xs lo hi = some r) (f : α → β) : ((xs.map f).take hi.toNat).drop lo.toNat = r.map f := by
  obtain ⟨_, _, _, rfl⟩ := subI_some h; simp [List.map_take, List.map_drop]
theorem sub_le {α : Type} {xs r : List α} {lo hi : Int} (h : subI xs lo hi = some r) : lo.toNat ≤ hi.toNat ∧ hi.toNat ≤ xs.length := by
  obtain ⟨_, _, _, rfl⟩ := subI_some h; omega
theorem cap_some {α : Type} {xs r : List α} {lo hi : Int} {n cap : Nat} (h : subI xs lo hi = some r) (hc : xs.length ≤ cap) : (some hi).getD (n : Int) ≤ (cap : Int) := by
  obtain ⟨_, _, _, _⟩ := subI_some h
  show hi ≤ _
  omega
theorem cap_none {n cap : Nat} (hc : n ≤ cap) : (none : Option Int).getD (n : Int) ≤ (cap : Int) := by
  show (n : Int) ≤ _
  omega
theorem map_len {α β : Type} (f : α → β) (xs : List α) : (xs.map f).length = xs.length := by simp
theorem and_t {c e : Bool} (h : c = true) : e = (c && e) := by subst h; rfl
theorem and_f {c e : Bool} (h : c = false) : false = (c && e) := by subst h; rfl
theorem or_t {c e : Bool} (h : c = true) : true = (c || e) := by subst h; rfl
theorem or_f {c e : Bool} (h : c = false) : e = (c || e) := by subst h; rfl

/-! ### Runs -/
/-- A load of the call's own variable. -/
theorem ld_box {T T' : TypeId} {x : Operand} {b off : Nat} {cs : List Value} {v : Value} (hE : Env N a env) (hS : Sep Bs w0 w L) (i : Nat) (ho : o.op = .load T x) (hx : opv env x = some (.pointer (some ⟨b, off, none⟩))) (hi : L[i]? = some (.box b T' cs))
    (hv : loadVal P T cs off = some v) : (execOp a.eval o).run P w = .ok (.value v) w := run_load_box ho (hE.eval hx) hS hi hv
/-- A load of an element. -/
theorem ld_elem {T : TypeId} {x : Operand} {k b off p j : Nat} {q : Int} {r : Res} {v : Value} {α : Type} {xs : List α} {u : α} {f : α → List Value} (hE : Env N a env) (hS : Sep Bs w0 w L) (ho : o.op = .load T x) (hx : opv env x = some (.pointer (some ⟨b, p, none⟩))) (hi : L[k]? = some r)
    (hr : RdOf r c A n cap (xs.map f)) (hA : A = some ⟨b, off, none⟩) (hu : getI xs q = some u) (hp : p = off + q.toNat * c + j) (hv : loadVal P T (f u) j = some v) : (execOp a.eval o).run P w = .ok (.value v) w :=
  run_load_elem ho (hE.eval hx) (hS.in_ hi hr).rd.1 hA (rows_get hu) hp hv
/-- the address of an element -/
theorem go_at (hE : Env N a env) (hS : Sep Bs w0 w L) (hg : gate ops env o = some true) (d : Nat) (hd : o.dst = some d) (hN : Nat.blt d N = true) {t e : TypeId} {x y : Operand} {k : IntKind} {i : Int} {r : Res} (q : Nat) 
    {α : Type} {xs : List α} {u : α} (ho : o.op = .indexAddr t x y) (ht : P.underlying t = some (.slice e)) (hc : sizeV P e = some c) (hx : opv env x = some (.slice A n cap)) (hy : opv env y = some (.int k i)) (hi : L[q]? = some r) (hr : RdOf r c A n cap rows)
    (hn : xs.length = n) (hu : getI xs i = some u)
    (h : ∀ a' b off, A = some ⟨b, off, none⟩ → Env N a' ((d, .pointer (some ⟨b, off + i.toNat * c, none⟩)) :: env) → wpList P ops.toArray Q rest a' w) : wpList P ops.toArray Q (o :: rest) a w :=
  go_idx hE hg d hd hN ho ht hc hx hy (hS.in_ hi hr).rd.1 hn hu h
theorem mx_at {l : List Oper} {tl : List Nat} {W : World} {i : Nat} {mrest : List (Nat × Bool)} (hE : Env N a env) (hS : Sep Bs w0 W L) (ho' : l[i]? = some o) (hg : gate l env o = some true) (d : Nat) (hd : o.dst = some d) (hN : Nat.blt d N = true) {t e : TypeId} {x y : Operand} {k : IntKind} {j : Int} {r : Res} (q : Nat)
    {α : Type} {xs : List α} {u : α} (ho : o.op = .indexAddr t x y) (ht : P.underlying t = some (.slice e)) (hc : sizeV P e = some c) (hx : opv env x = some (.slice A n cap)) (hy : opv env y = some (.int k j)) (hi : L[q]? = some r) (hr : RdOf r c A n cap rows)
    (hn : xs.length = n) (hu : getI xs j = some u)
    (h : ∀ a' b off, A = some ⟨b, off, none⟩ → Env N a' ((d, .pointer (some ⟨b, off + j.toNat * c, none⟩)) :: env) → wpMix P l.toArray tl W Q mrest a' w) : wpMix P l.toArray tl W Q ((i, false) :: mrest) a w :=
  mx_idx hE ho' hg d hd hN ho ht hc hx hy (hS.in_ hi hr).rd.1 hn hu h
/-- append -/
theorem go_push (hE : Env N a env) (hS : Sep Bs w0 w L) (hg : gate ops env o = some true) (d : Nat) (hd : o.dst = some d) (hN : Nat.blt d N = true) {t e bytes : Nat} {x y : Operand} (k j : Nat) {m cap2 : Nat} {A2 : Option Addr} {α : Type} {xs ys r : List α} {f : α → List Value} {s : Res}
    (ho : o.op = .call { callee := .builtin .append, args := #[x, y], argTypes := #[t, t] }) (hel : ElemOK P t e c bytes) (hx : opv env x = some (.slice A n cap)) (hy : opv env y = some (.slice A2 m cap2))
    (hi : L[k]? = some (.row e c A n cap (xs.map f))) (hj : L[j]? = some s) (hs : RdOf s c A2 m cap2 (ys.map f)) (h1 : ∀ x, allCells (f x) = true) (h2 : ∀ x, (f x).length = c) (hxn : xs.length = n) (hym : ys.length = m) (hr : room bytes xs ys = some r)
    (h : ∀ a' w' A' cap', Env N a' ((d, .slice A' r.length cap') :: env) → Sep Bs w0 w' (L.set k (.row e c A' r.length cap' (r.map f))) → wpList P ops.toArray Q rest a' w') : wpList P ops.toArray Q (o :: rest) a w :=
  go_app hE hS hg d hd hN k ho hel hx hy hi (hS.in_ hj hs).rd.1 (oneRows_map h1 ys) hxn hym hr (fun q hq => by obtain ⟨x, _, rfl⟩ := List.mem_map.1 hq; exact h2 x) (room_map hr f) (by rw [← hxn, ← hym]; exact room_len hr) h
/-- a call -/
theorem go_call (hE : Env N a env) (hg : gate ops env o = some true) (d : Nat) (hd : o.dst = some d) (hN : Nat.blt d N = true) (f : FuncId) (args : Array Value) (hv : evalOp P env o = some (.enter f args))
    {R : Value → World → Prop} (hc : Ret P f args w R)
    (h : ∀ a' v w', R v w' → Env N a' ((d, v) :: env) → wpList P ops.toArray Q rest a' w') : wpList P ops.toArray Q (o :: rest) a w := st_call hE hg d hd hN f args hv R hc h
/-- a call whose result is not kept -/
theorem go_call0 (hE : Env N a env) (hg : gate ops env o = some true) (hd : o.dst = none) (f : FuncId) (args : Array Value) (hv : evalOp P env o = some (.enter f args))
    {R : Value → World → Prop} (hc : Ret P f args w R)
    (h : ∀ a' v w', R v w' → Env N a' env → wpList P ops.toArray Q rest a' w') : wpList P ops.toArray Q (o :: rest) a w := by
  refine wpList_step fun K hK => ?_
  rw [if_pos (gate_wanted hE hg)]
  unfold Oper.wp
  rw [evalOp_run hE hv w]
  simp only [Oper.upon]
  refine Calls.mono hc fun e w'' ⟨v, he, hR⟩ => ?_
  subst he
  show K (a.put o.dst v) w''
  rw [hd]
  exact hK _ _ (h _ _ _ hR hE)
/-- .. whose guard says no: nothing is kept -/
theorem st_not0 (hE : Env N a env) (hg : gate ops env o = some false) (hd : o.dst = none)
    (h : wpList P ops.toArray Q rest a w) : wpList P ops.toArray Q (o :: rest) a w := by
  refine wpList_step fun K hK => ?_
  rw [if_neg (by rw [gate_wanted hE hg]; exact Bool.false_ne_true), hd]
  exact hK _ _ h
/-- Equality of structs, given how the values compare. -/
def EqIs (P : Program) (t : TypeId) (x y : Value) (b : Bool) : Prop := P.eqGuardType P.depth t = false ∧ ∀ w, (Op.equalIn 10000 t x y).run P w = .ok b w
theorem run_agg_eql {t yt : TypeId} {x y : Operand} {xs ys : Array Value} {b : Bool} (ho : o.op = .binOp .eql t x y yt) (hx : ρ x = .agg xs) (hy : ρ y = .agg ys) (h : EqIs P t (.agg xs) (.agg ys) b) :
    (execOp ρ o).run P w = .ok (.value (.bool b)) w := by
  unfold execOp
  simp only [ho, hx, hy]
  rw [Sem.run_bind, Sem.run_bind, run_eqGuard_agg w _ t x y xs ys h.1]
  simp only [Result.andThen_ok, run_eql_struct, h.2]
  rfl
theorem run_agg_neq {t yt : TypeId} {x y : Operand} {xs ys : Array Value} {b : Bool} (ho : o.op = .binOp .neq t x y yt) (hx : ρ x = .agg xs) (hy : ρ y = .agg ys) (h : EqIs P t (.agg xs) (.agg ys) b) :
    (execOp ρ o).run P w = .ok (.value (.bool (!b))) w := by
  unfold execOp
  simp only [ho, hx, hy]
  rw [Sem.run_bind, Sem.run_bind, run_eqGuard_agg w _ t x y xs ys h.1]
  simp only [Result.andThen_ok, run_neq_struct, h.2]
  rfl
/-- The ways through x meet again ahead of y. -/
theorem s_meet {x y : Code} (J : Act → World → Prop) (hx : x.wp P (Exit.then J Q) a w) (hy : ∀ a w, J a w → y.wp P Q a w) : (Code.seq x y).wp P Q a w := s_join J hy hx
end

theorem w_meet {x : Code} {P : Program} {Q : Exit → Act → World → Prop} {a : Act} {w : World} (J : Act → World → Prop) (hx : x.wp P (Exit.then J Q) a w) (hy : ∀ a w, J a w → Q .normal a w) : x.wp P Q a w :=
  wp_mono hx fun e a w h => by cases e <;> first | exact hy _ _ h | exact h
/-! ### Numbers, as plain data -/
def andI (k : IntKind) (x y : Int) : Int := k.wrap (BitVec.ofInt k.bits x &&& BitVec.ofInt k.bits y).toNat
def orI (k : IntKind) (x y : Int) : Int := k.wrap (BitVec.ofInt k.bits x ||| BitVec.ofInt k.bits y).toNat
def xorI (k : IntKind) (x y : Int) : Int := k.wrap (BitVec.ofInt k.bits x ^^^ BitVec.ofInt k.bits y).toNat
def andNotI (k : IntKind) (x y : Int) : Int := k.wrap (BitVec.ofInt k.bits x &&& ~~~(BitVec.ofInt k.bits y)).toNat
def maxI (x y : Int) : Int := if y > x then y else x
def minI (x y : Int) : Int := if y < x then y else x
theorem run_bool_eql {P : Program} {ρ : Operand → Value} {w : World} {o : Oper} {t yt : TypeId} {x y : Operand} {b c : Bool} (ho : o.op = .binOp .eql t x y yt) (ht : P.underlying t = some .bool) (hx : ρ x = .bool b) (hy : ρ y = .bool c) : (execOp ρ o).run P w = .ok (.value (.bool (b == c))) w := by
  unfold execOp
  simp only [ho, hx, hy]
  simp [eqGuard, run_eql_bool w t b c ht]
theorem run_bool_neq {P : Program} {ρ : Operand → Value} {w : World} {o : Oper} {t yt : TypeId} {x y : Operand} {b c : Bool} (ho : o.op = .binOp .neq t x y yt) (ht : P.underlying t = some .bool) (hx : ρ x = .bool b) (hy : ρ y = .bool c) : (execOp ρ o).run P w = .ok (.value (.bool (!(b == c)))) w := by
  unfold execOp
  simp only [ho, hx, hy]
  simp [eqGuard, run_neq_bool w t b c ht]
theorem bnd_some {ρ : Operand → Value} {x : Operand} {k : IntKind} {n : Int} (h : ρ x = .int k n) : boundIs ρ (some x) (some n) := ⟨k, h⟩
theorem bnd_none {ρ : Operand → Value} : boundIs ρ none none := trivial
/-! ### Equality of structs -/
def eqFs (P : Program) (f : TypeId → Value → Value → Option Bool) (xs ys : Array Value) : List Field → Option Bool
  | [] => some true
  | g :: fs => match g.name == "_", evalPure P (part g.type xs g.offset), evalPure P (part g.type ys g.offset) with
    | false, some a, some b => match f g.type a b, eqFs P f xs ys fs with
      | some r, some s => some (r && s)
      | _, _ => none
    | _, _, _ => none
def eqArr (P : Program) (f : TypeId → Value → Value → Option Bool) (e : TypeId) (xs ys : Array Value) : List Nat → Option Bool
  | [] => some true
  | i :: is => match evalPure P (part e xs (i * P.cellsOf e)), evalPure P (part e ys (i * P.cellsOf e)) with
    | some a, some b => match f e a b, eqArr P f e xs ys is with
      | some r, some s => some (r && s)
      | _, _ => none
    | _, _ => none
def eqV (P : Program) : Nat → TypeId → Value → Value → Option Bool
  | 0, _, _, _ => none
  | n + 1, t, x, y => match P.underlying t, x, y with
    | some .bool, .bool a, .bool b => some (a == b)
    | some (.int _), .int k a, .int k' b => match decide (k = k') with | true => some (a == b) | false => none
    | some .string, .string a, .string b => some (a.toList == b.toList)
    | some (.struct fs), .agg xs, .agg ys => match P.stoodInHeld t with | false => eqFs P (eqV P n) xs ys fs.toList | true => none
    | some (.array m e), .agg xs, .agg ys => match P.info? e with | some _ => eqArr P (eqV P n) e xs ys (List.range m) | none => none
    | _, _, _ => none
theorem eqArr_run {P : Program} {w : World} {f : TypeId → Value → Value → Option Bool} {d : Nat} (hf : ∀ t x y b, f t x y = some b → (Op.equalIn d t x y).run P w = .ok b w) {e : TypeId} {xs ys : Array Value} :
    ∀ {is : List Nat} {b : Bool}, eqArr P f e xs ys is = some b → (Op.eqItems d e (P.cellsOf e) xs ys is).run P w = .ok b w
  | [], b, h => by simp only [eqArr, Option.some.injEq] at h; subst h; rfl
  | i :: is, b, h => by
    simp only [eqArr] at h
    split at h
    · rename_i u v ha hb
      split at h
      · rename_i r s hr hs
        simp only [Option.some.injEq] at h
        subst h
        have ih := eqArr_run hf hs
        simp only [Op.eqItems, Sem.run_bind, evalPure_run ha w, Result.andThen_ok, evalPure_run hb w, hf _ _ _ _ hr]
        cases r with
        | true => simp only [Bool.not_true, Bool.false_eq_true, if_false, ih, Bool.true_and]
        | false => simp only [Bool.not_false, if_true, Sem.run_pure, Bool.false_and]
      · cases h
    · cases h
theorem eqFs_run {P : Program} {w : World} {f : TypeId → Value → Value → Option Bool} {d : Nat} (hf : ∀ t x y b, f t x y = some b → (Op.equalIn d t x y).run P w = .ok b w) {xs ys : Array Value} :
    ∀ {fs : List Field} {b : Bool}, eqFs P f xs ys fs = some b → (Op.eqFields d xs ys fs).run P w = .ok b w
  | [], b, h => by simp only [eqFs, Option.some.injEq] at h; subst h; rfl
  | g :: fs, b, h => by
    simp only [eqFs] at h
    split at h
    · rename_i u v hn ha hb
      split at h
      · rename_i r s hr hs
        simp only [Option.some.injEq] at h
        subst h
        have ih := eqFs_run hf hs
        have hne : g.name ≠ "_" := by simpa using hn
        simp only [Op.eqFields]
        rw [if_pos hne]
        simp only [Sem.run_bind, evalPure_run ha w, Result.andThen_ok, evalPure_run hb w, hf _ _ _ _ hr]
        cases r with
        | true => simp only [Bool.not_true, Bool.false_eq_true, if_false, ih, Bool.true_and]
        | false => simp only [Bool.not_false, if_true, Sem.run_pure, Bool.false_and]
      · cases h
    · cases h
theorem eqV_run {P : Program} {w : World} : ∀ {n d : Nat} {t : TypeId} {x y : Value} {b : Bool}, eqV P n t x y = some b → (Op.equalIn (d + n) t x y).run P w = .ok b w
  | 0, d, t, x, y, b, h => by cases h
  | n + 1, d, t, x, y, b, h => by
    simp only [eqV] at h
    split at h
    · rename_i hu; simp only [Option.some.injEq] at h; subst h; exact run_equalIn_bool' w _ t _ _ hu
    · rename_i hu
      split at h
      · rename_i hk
        simp only [decide_eq_true_eq] at hk
        subst hk
        simp only [Option.some.injEq] at h; subst h; exact run_equalIn_int w _ t _ _ _ _ hu
      · cases h
    · rename_i hu; simp only [Option.some.injEq] at h; subst h; exact run_equalIn_string w _ t _ _ hu
    · rename_i fs xs ys hu
      split at h
      · rename_i hp
        have hfs : P.fieldsOf t = fs := by simp [Program.fieldsOf, hu]
        rw [← Nat.add_assoc, run_equalIn_struct w _ t xs ys (by rw [hfs]; exact hu) hp, hfs]
        exact eqFs_run (fun t x y b h => eqV_run (n := n) (d := d) h) h
      · cases h
    · rename_i m e xs ys hu
      split at h
      · rename_i i hi
        rw [← Nat.add_assoc, run_equalIn_array w (d + n) xs ys hu hi]
        exact eqArr_run (fun t x y b h => eqV_run (n := n) (d := d) h) h
      · cases h
    · cases h
theorem eqIs_of {P : Program} {t : TypeId} {x y : Value} {b c : Bool} (n : Nat) (hn : Nat.ble n 10000 = true) (hg : P.eqGuardType P.depth t = false) (h : eqV P n t x y = some b) (hb : b = c) : EqIs P t x y c := by
  subst hb
  refine ⟨hg, fun w => ?_⟩
  have := eqV_run (w := w) (d := 10000 - n) h
  have e : 10000 - n + n = 10000 := Nat.sub_add_cancel (Nat.le_of_ble_eq_true hn)
  rwa [e] at this
theorem str_eq_iff (a b : Str) : (((⟨a.toArray⟩ : ByteArray).toList == (⟨b.toArray⟩ : ByteArray).toList) = true) = (a = b) := by
  rw [str_eq]; simp
/-! ### Arrays, in variables of the call's own -/
def boundI (n : Nat) (i : Int) : Option Unit := if 0 ≤ i ∧ i < n then some () else none
theorem boundI_some {n : Nat} {i : Int} {u : Unit} (h : boundI n i = some u) : 0 ≤ i ∧ i < n := by
  unfold boundI at h
  split at h
  · assumption
  · cases h
theorem run_indexArr {P : Program} {ρ : Operand → Value} {w : World} {o : Oper} {t e n c b off : Nat} {x y : Operand} {k : IntKind} {i : Int} {u : Unit} (ho : o.op = .indexAddr t x y) (ht : P.underlying t = some (.array n e)) (hc : sizeV P e = some c)
    (hx : ρ x = .pointer (some ⟨b, off, none⟩)) (hy : ρ y = .int k i) (hi : boundI n i = some u) : (execOp ρ o).run P w = .ok (.value (.pointer (some ⟨b, off + i.toNat * c, none⟩))) w := by
  obtain ⟨h0, h1⟩ := boundI_some hi
  unfold sizeV at hc
  cases hq : P.info? e with
  | none => simp [hq] at hc
  | some inf =>
    have hs' : inf.size = c := by simpa [hq] using hc
    unfold execOp
    simp [ho, hx, hy, Instr.indexAt, asIntOf, run_underlying ht, sizeOf, typeInfo, hq, hs', h0, h1, Addr.add_mk, Instr.sureAddr]
/-! ### What the kit proves of the library, as plain data -/
def strings_Repeat (s : Str) (c : Int) : Option Str := if 0 ≤ c ∧ c ≤ 9223372036854775807 ∧ s.length * c.toNat ≤ 140737488355328 then some (List.replicate c.toNat s).flatten else none
def strings_Count (s sub : Str) : Option Int := match sub with
  | [c] => some (s.count c : Nat)
  | _ => none
theorem Sep.now {Bs : List Nat} {w0 w : World} {L : List Res} (_ : Sep Bs w0 w L) : Ext w w := Ext.refl w
theorem Sep.of_below {w0 w : World} (h : Below w0.heap.size w0 w) : Sep [] w0 w [] := ⟨Chg.of_below h, (fun _ h => nomatch h), (fun _ h => nomatch h), .nil⟩
/-! ### Encoders of elements -/
def eI (k : IntKind) (n : Int) : List Value := [.int k n]
def eB (b : Bool) : List Value := [.bool b]
def eS (s : Str) : List Value := [S s]

/-- How a block of code may end, as plain data: it goes on, or it returns. -/
inductive Out (σ ρ : Type) where
  | fall (s : σ)
  | ret (r : ρ)
end Rt
end Go
