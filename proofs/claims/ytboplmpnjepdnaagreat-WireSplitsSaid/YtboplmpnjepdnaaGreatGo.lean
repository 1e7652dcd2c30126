/-
  The words of the walks that a program writes, one for each kind of operation that makes or turns memory. No program in sight.
-/
import Derived.Test.YtboplmpnjepdnaaGreatWay
namespace Go
namespace Rt
open Go.RowKit

section
variable {P : Program} {ops : List Oper} {Q : Exit → Act → World → Prop} {a : Act} {w w0 : World} {rest : List Oper} {o : Oper} {N : Nat} {env : List (Nat × Value)} {Bs : List Nat} {L L' : List Res}

/-- a new variable -/
theorem go_box (hE : Env N a env) (hS : Sep Bs w0 w L) (hg : gate ops env o = some true) (d : Nat) (hd : o.dst = some d) (hN : Nat.blt d N = true) (T : TypeId) (cs : List Value)
    (hv : ∀ r, evalOpNew P env r o = some (.cells cs.toArray T (0, 0), .value (.pointer (some ⟨r, 0, none⟩))))
    (h : ∀ a' w' b, Ext w w' → Env N a' ((d, .pointer (some ⟨b, 0, none⟩)) :: env) → Sep Bs w0 w' (.box b T cs :: L) → wpList P ops.toArray Q rest a' w') : wpList P ops.toArray Q (o :: rest) a w :=
  st_run hE hg d hd hN _ (evalOpNew_run hE (hv _)) fun a' hE' => h a' _ w.heap.size (Ext.one w _) hE' (hS.box_new T cs)
/-- a new slice, its elements given -/
theorem go_slice (hE : Env N a env) (hS : Sep Bs w0 w L) (hg : gate ops env o = some true) (d : Nat) (hd : o.dst = some d) (hN : Nat.blt d N = true) (e c n : Nat) (rows : List (List Value))
    (hv : ∀ r, evalOpNew P env r o = some (.cells rows.flatten.toArray e (0, 0), .value (.slice (some ⟨r, 0, none⟩) n n))) (hn : rows.length = n) (hr : ∀ r ∈ rows, r.length = c) (hm : Nat.ble n 9223372036854775807 = true)
    (h : ∀ a' w' A, Ext w w' → Env N a' ((d, .slice A n n) :: env) → Sep Bs w0 w' (.row e c A n n rows :: L) → wpList P ops.toArray Q rest a' w') : wpList P ops.toArray Q (o :: rest) a w :=
  st_run hE hg d hd hN _ (evalOpNew_run hE (hv _)) fun a' hE' => h a' _ _ (Ext.one w _) hE' (hS.row_new e c n rows hn hr hm)
/-- a store into a variable of the call's own -/
theorem go_set (hE : Env N a env) (hS : Sep Bs w0 w L) (hg : gate ops env o = some true) (hd : o.dst = none) {T : TypeId} {x y : Operand} {v : Value} (i : Nat) {b off : Nat} {T' : TypeId} {cs : List Value} (ho : o.op = .store T x y)
    (hx : opv env x = some (.pointer (some ⟨b, off, none⟩))) (hy : opv env y = some v) (hi : L[i]? = some (.box b T' cs)) (hs : sizeV P T = some v.cells.size) (hle : Nat.ble (off + v.cells.size) cs.length = true)
    (h1 : allCells v.cells.toList = true) (cs' : List Value) (hc : splice cs off v.cells.toList = cs') (hL : L.set i (.box b T' cs') = L')
    (h : ∀ w', Sep Bs w0 w' L' → wpList P ops.toArray Q rest a w') : wpList P ops.toArray Q (o :: rest) a w := by
  obtain ⟨w', hr, hS', _, _⟩ := run_store_box (P := P) ho (hE.eval hx) (hE.eval hy) hS hi hs hle h1 hc
  exact st_skip hE hg hd hr (h w' (hL ▸ hS'))
/-- the address of an element -/
theorem go_idx (hE : Env N a env) (hg : gate ops env o = some true) (d : Nat) (hd : o.dst = some d) (hN : Nat.blt d N = true) {t e : TypeId} {x y : Operand} {k : IntKind} {i : Int} {c n cap : Nat} {A : Option Addr} {rows : List (List Value)} {F : Nat → Prop}
    {α : Type} {xs : List α} {u : α} (ho : o.op = .indexAddr t x y) (ht : P.underlying t = some (.slice e)) (hc : sizeV P e = some c) (hx : opv env x = some (.slice A n cap)) (hy : opv env y = some (.int k i)) (hs : SlF F c A n rows w)
    (hn : xs.length = n) (hu : getI xs i = some u)
    (h : ∀ a' b off, A = some ⟨b, off, none⟩ → Env N a' ((d, .pointer (some ⟨b, off + i.toNat * c, none⟩)) :: env) → wpList P ops.toArray Q rest a' w) : wpList P ops.toArray Q (o :: rest) a w := by
  obtain ⟨b, off, hA, hr⟩ := run_indexAddr (P := P) ho ht hc (hE.eval hx) (hE.eval hy) hs hn hu
  exact st_run hE hg d hd hN _ hr fun a' hE' => h a' b off hA hE'
/-- a store into an element of a row of the call's own -/
theorem go_put (hE : Env N a env) (hS : Sep Bs w0 w L) (hg : gate ops env o = some true) (hd : o.dst = none) {T : TypeId} {x y : Operand} {v : Value} (k : Nat) {e c n cap b off p j i : Nat} {A : Option Addr} {rows : List (List Value)} {r r' : List Value}
    (ho : o.op = .store T x y) (hx : opv env x = some (.pointer (some ⟨b, p, none⟩))) (hy : opv env y = some v) (hi : L[k]? = some (.row e c A n cap rows)) (hA : A = some ⟨b, off, none⟩) (hr : rows[i]? = some r)
    (hp : p = off + i * c + j) (hs : sizeV P T = some v.cells.size) (hle : Nat.ble (j + v.cells.size) c = true) (h1 : allCells v.cells.toList = true) (hr' : splice r j v.cells.toList = r') {rows' : List (List Value)} (hrows : rows.set i r' = rows')
    (hL : L.set k (.row e c A n cap rows') = L') (h : ∀ w', Sep Bs w0 w' L' → wpList P ops.toArray Q rest a w') : wpList P ops.toArray Q (o :: rest) a w := by
  obtain ⟨w', hrun, hS', _, _⟩ := run_store_elem (P := P) ho (hE.eval hx) (hE.eval hy) hS hi hA hr hp hs hle h1 hr'
  subst hrows; subst hL
  exact st_skip hE hg hd hrun (h w' hS')
/-- append -/
theorem go_app (hE : Env N a env) (hS : Sep Bs w0 w L) (hg : gate ops env o = some true) (d : Nat) (hd : o.dst = some d) (hN : Nat.blt d N = true) {t e c bytes : Nat} {x y : Operand} (k : Nat) {n cap m cap2 : Nat} {A A2 : Option Addr} {rows news : List (List Value)} {F : Nat → Prop}
    {α : Type} {xs ys r : List α} (ho : o.op = .call { callee := .builtin .append, args := #[x, y], argTypes := #[t, t] }) (hel : ElemOK P t e c bytes) (hx : opv env x = some (.slice A n cap)) (hy : opv env y = some (.slice A2 m cap2))
    (hi : L[k]? = some (.row e c A n cap rows)) (hs : SlF F c A2 m news w) (hone : OneRows news) (hxn : xs.length = n) (hym : ys.length = m) (hr : room bytes xs ys = some r) (hnl : ∀ q ∈ news, q.length = c)
    {rows' : List (List Value)} (hrows : rows ++ news = rows') {n' : Nat} (hn' : n + m = n')
    (h : ∀ a' w' A' cap', Env N a' ((d, .slice A' n' cap') :: env) → Sep Bs w0 w' (L.set k (.row e c A' n' cap' rows')) → wpList P ops.toArray Q rest a' w') : wpList P ops.toArray Q (o :: rest) a w := by
  obtain ⟨A', cap', w', hrun, hS', _, _⟩ := run_append (P := P) ho hel (hE.eval hx) (hE.eval hy) hS hi hs hone hxn hym hr hnl
  subst hrows; subst hn'
  exact st_run hE hg d hd hN _ hrun fun a' hE' => h a' w' A' cap' hE' hS'
/-- make([]T, n) -/
theorem go_make (hE : Env N a env) (hS : Sep Bs w0 w L) (hg : gate ops env o = some true) (d : Nat) (hd : o.dst = some d) (hN : Nat.blt d N = true) {t e c bytes : Nat} {x y : Operand} {k1 k2 : IntKind} {n : Int} (zs : List Value) {α : Type} {z : α} {r : List α} (ho : o.op = .makeSlice t x y)
    (hel : ElemOK P t e c bytes) (hz : zeroOf P e = some zs) (hx : opv env x = some (.int k1 n)) (hy : opv env y = some (.int k2 n)) (hr : makeI bytes z n = some r)
    {rows : List (List Value)} (hrows : List.replicate n.toNat zs = rows) {m : Nat} (hm : n.toNat = m)
    (h : ∀ a' w' A, Ext w w' → Env N a' ((d, .slice A m m) :: env) → Sep Bs w0 w' (.row e c A m m rows :: L) → wpList P ops.toArray Q rest a' w') : wpList P ops.toArray Q (o :: rest) a w := by
  obtain ⟨A', w', hrun, hS', hx'⟩ := run_makeSlice_full (P := P) ho hel hz (hE.eval hx) (hE.eval hy) hS hr
  subst hrows; subst hm
  exact st_run hE hg d hd hN _ hrun fun a' hE' => h a' w' A' hx' hE' hS'
/-- make([]T, 0, n) -/
theorem go_make0 (hE : Env N a env) (hS : Sep Bs w0 w L) (hg : gate ops env o = some true) (d : Nat) (hd : o.dst = some d) (hN : Nat.blt d N = true) {t e c bytes : Nat} {x y : Operand} {k1 k2 : IntKind} {n : Int} {α : Type} {z : α} {r : List α} (ho : o.op = .makeSlice t x y)
    (hel : ElemOK P t e c bytes) (hx : opv env x = some (.int k1 0)) (hy : opv env y = some (.int k2 n)) (hr : makeI bytes z n = some r)
    (h : ∀ a' w' A, Ext w w' → Env N a' ((d, .slice A 0 n.toNat) :: env) → Sep Bs w0 w' (.row e c A 0 n.toNat [] :: L) → wpList P ops.toArray Q rest a' w') : wpList P ops.toArray Q (o :: rest) a w := by
  obtain ⟨A', w', hrun, hS', hx'⟩ := run_makeSlice_cap (P := P) ho hel (hE.eval hx) (hE.eval hy) hS hr
  exact st_run hE hg d hd hN _ hrun fun a' hE' => h a' w' A' hx' hE' hS'
/-- in a region that draws: the address of an element -/
theorem mx_idx {l : List Oper} {tl : List Nat} {W : World} {i : Nat} {mrest : List (Nat × Bool)} (hE : Env N a env) (ho' : l[i]? = some o) (hg : gate l env o = some true) (d : Nat) (hd : o.dst = some d) (hN : Nat.blt d N = true) {t e : TypeId} {x y : Operand} {k : IntKind} {q : Int} {c n cap : Nat} {A : Option Addr} {rows : List (List Value)} {F : Nat → Prop}
    {α : Type} {xs : List α} {u : α} (ho : o.op = .indexAddr t x y) (ht : P.underlying t = some (.slice e)) (hc : sizeV P e = some c) (hx : opv env x = some (.slice A n cap)) (hy : opv env y = some (.int k q)) (hs : SlF F c A n rows W)
    (hn : xs.length = n) (hu : getI xs q = some u)
    (h : ∀ a' b off, A = some ⟨b, off, none⟩ → Env N a' ((d, .pointer (some ⟨b, off + q.toNat * c, none⟩)) :: env) → wpMix P l.toArray tl W Q mrest a' w) : wpMix P l.toArray tl W Q ((i, false) :: mrest) a w := by
  obtain ⟨b, off, hA, _⟩ := run_indexAddr (P := P) (w := W) ho ht hc (hE.eval hx) (hE.eval hy) hs hn hu
  refine mx_run hE ho' hg d hd hN (.pointer (some ⟨b, off + q.toNat * c, none⟩)) (fun w' hw' => ?_) fun a' hE' => h a' b off hA hE'
  have hs' : SlF F c A n rows w' ∨ True := .inr trivial
  obtain ⟨h0, _, hlt⟩ := getI_some hu
  subst hA
  unfold sizeV at hc
  cases hq : P.info? e with
  | none => simp [hq] at hc
  | some inf =>
    have hs' : inf.size = c := by simpa [hq] using hc
    unfold execOp
    simp [ho, hE.eval hx, hE.eval hy, Instr.indexAt, asIntOf, run_underlying ht, sizeOf, typeInfo, hq, hs', h0, Addr.add_mk]
    omega
theorem Sep.reads_ext {w' : World} {i : Nat} {r : Res} {c n : Nat} {A : Option Addr} {rows : List (List Value)} (h : Sep Bs w0 w L) (hx : Ext w w') (hi : L[i]? = some r) (hr : Reads r c A n rows) : SlF r.fp c A n rows w' := (h.ext hx).reads hi hr
end
end Rt
end Go
