/-
  Laws for slices that a call makes, for calls, loops, the way in and the way out: for the walks that a program writes. No program in sight.
-/
import Derived.Test.YtboplmpnjepdnaaGreatMem
import Derived.Maps.AppendAt
namespace Go
namespace Rt
open Go.RowKit

section
variable {P : Program} {ρ : Operand → Value} {w w' w0 : World} {o : Oper} {Bs : List Nat} {L : List Res}

/-! ### Operations that make one block -/
def evalNew {α : Type} (P : Program) (r : Nat) : Sem α → Option (Obj × α)
  | .program k => evalNew P r (k P)
  | .new ob k => match evalPure P (k r) with
    | some v => some (ob, v)
    | none => none
  | _ => none
theorem evalNew_run {α : Type} {P : Program} {s : Sem α} {w : World} {ob : Obj} {v : α} (h : evalNew P w.heap.size s = some (ob, v)) : s.run P w = .ok v (w.alloc ob) := by
  induction s with
  | program k ih => simp only [evalNew] at h; simp only [Sem.run]; exact ih P h
  | new o' k =>
    simp only [evalNew] at h
    split at h
    · rename_i v' hv
      simp only [Option.some.injEq, Prod.mk.injEq] at h
      obtain ⟨rfl, rfl⟩ := h
      simp only [Sem.run]
      exact evalPure_run hv _
    · cases h
  | _ => simp [evalNew] at h
def evalOpNew (P : Program) (env : List (Nat × Value)) (r : Nat) (o : Oper) : Option (Obj × Next) :=
  match known env o.op.operands.toList && !isSelect o.op with
  | true => evalNew P r (execOp (envρ env) o)
  | false => none
theorem evalOpNew_run {N : Nat} {a : Act} {env : List (Nat × Value)} {ob : Obj} {r : Next} (hE : Env N a env) (h : evalOpNew P env w.heap.size o = some (ob, r)) : (execOp a.eval o).run P w = .ok r (w.alloc ob) := by
  unfold evalOpNew at h
  split at h
  · rename_i hk
    simp only [Bool.and_eq_true, Bool.not_eq_true'] at hk
    have hc : execOp a.eval o = execOp (envρ env) o := by
      refine execOp_congr o (fun cs b e => ?_) fun x hx => ?_
      · rw [e] at hk; simp [isSelect] at hk
      · obtain ⟨v, hv⟩ := known_mem hk.1 x (by simpa using hx)
        rw [hE.eval hv]; simp [envρ, hv]
    rw [hc]
    exact evalNew_run h
  · cases h
theorem Sep.row_new (h : Sep Bs w0 w L) (e c n : Nat) (rows : List (List Value)) (hn : rows.length = n) (hr : ∀ r ∈ rows, r.length = c) (hm : Nat.ble n 9223372036854775807 = true) :
    Sep Bs w0 (w.alloc (.cells rows.flatten.toArray e)) (.row e c (some ⟨w.heap.size, 0, none⟩) n n rows :: L) := by
  have hm' : n ≤ maxLen := by have := Nat.le_of_ble_eq_true hm; unfold maxLen; omega
  refine h.add (Ext.one w _) ⟨?_, hn, hr⟩ (fun k hk => ?_)
  · have := World.ownsRow_lit (base := 0) (e := e) (size := c) w rows.flatten.toArray n (Nat.zero_le _) hm' (by simp only [List.size_toArray]; rw [length_flatten_rows hr, hn])
    simpa using this
  · obtain ⟨a, ha, rfl⟩ := hk
    simp only [Option.some.injEq] at ha
    subst ha; exact Nat.le_refl _

/-! ### append -/
/-- The element type of a slice type: its cells and bytes. -/
def ElemOK (P : Program) (t e c bytes : Nat) : Prop := P.underlying t = some (.slice e) ∧ ∃ i z, P.info? e = some i ∧ i.zero = some z ∧ i.size = c ∧ i.bytes = bytes ∧ z.cells.size = c ∧ 0 < c
def elemB (P : Program) (e c bytes : Nat) : Bool := match P.info? e with
  | some i => (match i.zero with | some z => Nat.beq z.cells.size c | none => false) && Nat.beq i.size c && Nat.beq i.bytes bytes && Nat.blt 0 c
  | none => false
theorem elemOK {t e c bytes : Nat} (hu : P.underlying t = some (.slice e)) (h : elemB P e c bytes = true) : ElemOK P t e c bytes := by
  refine ⟨hu, ?_⟩
  unfold elemB at h
  split at h
  · rename_i i hi
    simp only [Bool.and_eq_true] at h
    obtain ⟨⟨⟨h1, h2⟩, h3⟩, h4⟩ := h
    split at h1
    · rename_i z hz
      exact ⟨i, z, hi, hz, Nat.eq_of_beq_eq_true h2, Nat.eq_of_beq_eq_true h3, Nat.eq_of_beq_eq_true h1, by simpa using h4⟩
    · cases h1
  · cases h
theorem ElemOK.size {t e c bytes : Nat} (h : ElemOK P t e c bytes) : sizeV P e = some c := by
  obtain ⟨_, i, z, hi, _, hs, _⟩ := h
  simp [sizeV, hi, hs]
theorem room_some {α : Type} {bytes : Nat} {xs ys r : List α} (h : room bytes xs ys = some r) : xs.length + ys.length ≤ 9223372036854775807 ∧ (xs.length + ys.length) * bytes ≤ 140737488355328 ∧ r = xs ++ ys := by
  unfold room at h
  split at h
  · rename_i hc; simp only [Option.some.injEq] at h; exact ⟨hc.1, hc.2, h.symm⟩
  · cases h
/-- What a row's cells are. -/
def OneRows (rows : List (List Value)) : Prop := ∀ r ∈ rows, allCells r = true
theorem oneRows_map {α : Type} {f : α → List Value} (hf : ∀ x, allCells (f x) = true) (xs : List α) : OneRows (xs.map f) := by
  intro r hr
  obtain ⟨x, _, rfl⟩ := List.mem_map.1 hr
  exact hf x
theorem oneRows_flat {rows : List (List Value)} (h : OneRows rows) : ∀ u ∈ rows.flatten, u.oneCell' = true := by
  intro u hu
  obtain ⟨r, hr, hur⟩ := List.mem_flatten.1 hu
  exact allCells_one (h r hr) u hur
/-- append onto a row of the call's own, from whatever can be read. -/
theorem run_append {t e c bytes : Nat} {x y : Operand} {k n cap m cap2 : Nat} {A A2 : Option Addr} {rows news : List (List Value)} {F : Nat → Prop} {α : Type} {xs ys r : List α}
    (ho : o.op = .call { callee := .builtin .append, args := #[x, y], argTypes := #[t, t] }) (hel : ElemOK P t e c bytes) (hx : ρ x = .slice A n cap) (hy : ρ y = .slice A2 m cap2)
    (h : Sep Bs w0 w L) (hi : L[k]? = some (.row e c A n cap rows)) (hs : SlF F c A2 m news w) (hone : OneRows news) (hxn : xs.length = n) (hym : ys.length = m) (hr : room bytes xs ys = some r) (hnl : ∀ q ∈ news, q.length = c) :
    ∃ A' cap' w', (execOp ρ o).run P w = .ok (.value (.slice A' (n + m) cap')) w' ∧ Sep Bs w0 w' (L.set k (.row e c A' (n + m) cap' (rows ++ news))) ∧ Grow w w' ∧ (∀ q, q < w.heap.size → ¬ rowF A q → w'.heap[q]? = w.heap[q]?) := by
  obtain ⟨hu, i, z, hinf, hz, hsz, hby, hzs, hpos⟩ := hel
  obtain ⟨hown, hlen, hrl⟩ := h.hold _ (List.mem_of_getElem? hi)
  obtain ⟨h1, h2, _⟩ := room_some hr
  have hop : execOp ρ o = (do pure (.value (← Builtin.append_ #[t, t] o.type #[ρ x, ρ y]))) := by
    obtain ⟨dst, op, ty', pos, after, guard⟩ := o
    simp only at ho
    subst ho
    rw [BigFrame.execOp_builtin, BigFrame.builtin_append]
    simp only [List.map_toArray, List.map_cons, List.map_nil]
  have hfl : news.flatten.length = m * c := by rw [length_flatten_rows hnl, hs.1]
  have main : ∃ v' w', (Builtin.append_ #[t, t] o.type #[.slice A n cap, .slice A2 m cap2]).run P w = .ok v' w' ∧ w'.ownsRow 0 e c v' (n + m) (rows.flatten ++ news.flatten) ∧ w.grownBy w' (Value.slice A n cap).ownBlock ∧ (v'.ownBlock = (Value.slice A n cap).ownBlock ∨ v'.ownBlock = some w.heap.size) := by
    cases A2 with
    | none =>
      have hm0 : m = 0 := by
        rcases Nat.eq_zero_or_pos m with h0 | h0
        · exact h0
        · obtain ⟨b, off, hh, _⟩ := hs.2 h0; cases hh
      subst hm0
      have hn0 : news.flatten = [] := List.eq_nil_of_length_eq_zero (by rw [hfl]; simp)
      refine ⟨.slice A n cap, w, ?_, by rw [hn0]; simpa using hown, World.grownBy.refl w _, .inl rfl⟩
      rcases hown.2 with ⟨hv, hn⟩ | ⟨g, cap', cur, hv, _, _, hnc, _⟩
      · injection hv with e1 e2 e3
        subst e1; subst e2; subst e3
        simp [Builtin.append_, run_underlying hu, sizeOf, typeInfo, hinf, Builtin.lenOf, Builtin.firstCells]
      · injection hv with e1 e2 e3
        subst e1; subst e3
        simp [Builtin.append_, run_underlying hu, sizeOf, typeInfo, hinf, Builtin.lenOf, Builtin.firstCells, hnc, storeCells]
    | some ad =>
      have hcells : ∀ j u, news.flatten[j]? = some u → w.cell? (ad.add j) = some u := by
        intro j u hu
        have hjl : j < m * c := by rw [← hfl]; exact (List.getElem?_eq_some_iff.1 hu).1
        have hm0 : 0 < m := by rcases Nat.eq_zero_or_pos m with h0 | h0; (subst h0; omega); exact h0
        obtain ⟨b, off, hA, _, hc⟩ := hs.2 hm0
        simp only [Option.some.injEq] at hA
        subst hA
        have hq : j / c < news.length := by rw [hs.1]; exact Nat.div_lt_of_lt_mul (by rw [Nat.mul_comm]; exact hjl)
        have hrow := hc (j / c) _ (List.getElem?_eq_getElem hq)
        have hmod : j % c < c := Nat.mod_lt _ hpos
        have hju := flatten_get hnl (List.getElem?_eq_getElem hq) (j % c) (news[j / c][j % c]'(by rw [hrow.1]; exact hmod)) (List.getElem?_eq_getElem _)
        have hj : j / c * c + j % c = j := by rw [Nat.mul_comm]; exact Nat.div_add_mod j c
        rw [hj, hu] at hju
        have hcell := hrow.2 (j % c) _ (List.getElem?_eq_getElem (by rw [hrow.1]; exact hmod))
        rw [Nat.add_assoc, hj] at hcell
        rw [Addr.add_mk, hcell, hju]
      obtain ⟨v', w', hrun, ho', hg, _, h5⟩ := run_append_own_at (P := P) w 0 t o.type e i z c bytes hu hinf hz hsz hby hzs hpos (.slice A n cap) n rows.flatten hown ad m cap2 news.flatten hfl hcells (oneRows_flat hone)
        (by unfold maxLen; omega) (by rw [← hxn, ← hym]; exact h2) (Nat.zero_le _)
      exact ⟨v', w', hrun, ho', hg, h5⟩
  obtain ⟨v', w', hrun, ho', hg, h5⟩ := main
  obtain ⟨A', cap', rfl⟩ := own_form ho'
  have hb : Grow w w' := ⟨hg.os, hg.tape, hg.output, hg.size⟩
  have hk : ∀ q, q < w.heap.size → ¬ rowF A q → w'.heap[q]? = w.heap[q]? := fun q hq hnq => hg.block q hq fun he => hnq (by
    cases A with
    | none => simp [Value.ownBlock] at he
    | some ad => simp [Value.ownBlock] at he; exact ⟨ad, rfl, he⟩)
  refine ⟨A', cap', w', ?_, ?_, hb, hk⟩
  · rw [hop, hx, hy]
    simp [hrun]
  · refine h.turn k hi trivial ⟨by rw [List.flatten_append]; exact ho', by rw [List.length_append, hlen, hs.1], fun q hq => ?_⟩ hb hk (fun q hq => ?_)
    · rcases List.mem_append.1 hq with hq | hq
      · exact hrl q hq
      · exact hnl q hq
    · obtain ⟨ad, rfl, rfl⟩ := hq
      rcases h5 with h5 | h5
      · cases A with
        | none => simp [Value.ownBlock] at h5
        | some ad2 => simp [Value.ownBlock] at h5; exact .inl ⟨ad2, rfl, h5⟩
      · simp [Value.ownBlock] at h5; exact .inr (by omega)
end
end Rt
end Go
