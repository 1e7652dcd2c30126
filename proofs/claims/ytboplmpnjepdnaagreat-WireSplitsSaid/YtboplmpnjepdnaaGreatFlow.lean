/-
  The way in, the way out, tests, joins, loops, calls, and regions that draw their order: for the walks that a program writes. No program in sight.
-/
import Derived.Test.YtboplmpnjepdnaaGreatMem2
namespace Go
namespace Rt
open Go.RowKit

section
variable {P : Program} {ρ : Operand → Value} {w w' w0 : World} {o : Oper} {Bs : List Nat} {L : List Res}

/-! ### make, stores into rows, cuts, conversions -/
theorem makeI_some {α : Type} {bytes : Nat} {z : α} {n : Int} {r : List α} (h : makeI bytes z n = some r) : 0 ≤ n ∧ n ≤ 9223372036854775807 ∧ bytes * n ≤ 281474976710656 ∧ r = List.replicate n.toNat z := by
  unfold makeI at h
  split at h
  · rename_i hc; simp only [Option.some.injEq] at h; exact ⟨hc.1, hc.2.1, hc.2.2, h.symm⟩
  · cases h
theorem flatten_replicate_cells (zs : List Value) (n : Nat) : (List.replicate n zs).flatten = (madeCells zs.toArray (n * zs.length)).toList := by
  apply List.ext_getElem?
  intro j
  have hl : ∀ r ∈ List.replicate n zs, r.length = zs.length := fun r hr => by rw [List.eq_of_mem_replicate hr]
  by_cases hj : j < n * zs.length
  · have hz : 0 < zs.length := by
      rcases Nat.eq_zero_or_pos zs.length with h | h
      · rw [h] at hj; omega
      · exact h
    have hm : j % zs.length < zs.length := Nat.mod_lt _ hz
    have hq : j / zs.length < n := Nat.div_lt_of_lt_mul (by rw [Nat.mul_comm]; exact hj)
    have := flatten_get hl (i := j / zs.length) (r := zs) (by rw [List.getElem?_replicate, if_pos hq]) (j % zs.length) _ (List.getElem?_eq_getElem hm)
    rw [Nat.mul_comm, Nat.div_add_mod] at this
    rw [this]
    simp [madeCells, hj, hm]
  · rw [List.getElem?_eq_none (by rw [length_flatten_rows hl, List.length_replicate]; omega), List.getElem?_eq_none (by simp [madeCells]; omega)]
theorem run_makeSlice_full {t e c bytes : Nat} {x y : Operand} {k1 k2 : IntKind} {n : Int} {zs : List Value} {α : Type} {z : α} {r : List α} (ho : o.op = .makeSlice t x y) (hel : ElemOK P t e c bytes) (hz : zeroOf P e = some zs)
    (hx : ρ x = .int k1 n) (hy : ρ y = .int k2 n) (h : Sep Bs w0 w L) (hr : makeI bytes z n = some r) :
    ∃ A' w', (execOp ρ o).run P w = .ok (.value (.slice A' n.toNat n.toNat)) w' ∧ Sep Bs w0 w' (.row e c A' n.toNat n.toNat (List.replicate n.toNat zs) :: L) ∧ Ext w w' := by
  obtain ⟨hu, i, z', hi, hzz, hsz, hby, hzs, hpos⟩ := hel
  obtain ⟨h0, h1, h2, _⟩ := makeI_some hr
  subst hsz; subst hby
  have hzl : zs = z'.cells.toList := by
    simp only [zeroOf, hi, hzz, Option.some.injEq] at hz; exact hz.symm
  have hm := Go.run_make (P := P) (w := w) t e i z' hu hi hzz k1 k2 n n h0 (Int.le_refl _) h2 h1
  have hlen : zs.length = i.size := by rw [hzl, Array.length_toList]; exact hzs
  have hfl : (madeCells z'.cells (n.toNat * i.size)) = (List.replicate n.toNat zs).flatten.toArray := by
    rw [flatten_replicate_cells, hlen, hzl]
  have hrow := h.row_new e i.size n.toNat (List.replicate n.toNat zs) (by simp) (fun r hr => by rw [List.eq_of_mem_replicate hr, hlen]) (by apply Nat.ble_eq_true_of_le; omega)
  refine ⟨some ⟨w.heap.size, 0, none⟩, w.alloc (.cells (List.replicate n.toNat zs).flatten.toArray e), ?_, hrow, Ext.one w _⟩
  unfold execOp
  rw [hfl] at hm
  simp [ho, hx, hy, hm]
theorem run_makeSlice_cap {t e c bytes : Nat} {x y : Operand} {k1 k2 : IntKind} {n : Int} {α : Type} {z : α} {r : List α} (ho : o.op = .makeSlice t x y) (hel : ElemOK P t e c bytes)
    (hx : ρ x = .int k1 0) (hy : ρ y = .int k2 n) (h : Sep Bs w0 w L) (hr : makeI bytes z n = some r) :
    ∃ A' w', (execOp ρ o).run P w = .ok (.value (.slice A' 0 n.toNat)) w' ∧ Sep Bs w0 w' (.row e c A' 0 n.toNat [] :: L) ∧ Ext w w' := by
  obtain ⟨hu, i, z', hi, hzz, hsz, hby, hzs, hpos⟩ := hel
  obtain ⟨h0, h1, h2, _⟩ := makeI_some hr
  subst hsz; subst hby
  have hm := Go.run_make (P := P) (w := w) t e i z' hu hi hzz k1 k2 0 n (Int.le_refl _) h0 h2 h1
  refine ⟨some ⟨w.heap.size, 0, none⟩, w.alloc (.cells (madeCells z'.cells (n.toNat * i.size)) e), ?_, ?_, Ext.one w _⟩
  · unfold execOp
    simp [ho, hx, hy, hm]
  · refine h.add (Ext.one w _) ⟨?_, rfl, fun r hr => by cases hr⟩ (fun k hk => ?_)
    · exact World.ownsRow_made (base := 0) (e := e) w _ n.toNat (Nat.zero_le _) (by unfold maxLen; omega) (by simp [madeCells])
    · obtain ⟨a, ha, rfl⟩ := hk
      simp only [Option.some.injEq] at ha
      subst ha; exact Nat.le_refl _
theorem flatten_set {c : Nat} : ∀ {rows : List (List Value)} {i : Nat} {r r' : List Value}, (∀ r ∈ rows, r.length = c) → rows[i]? = some r → r'.length = c →
    (rows.set i r').flatten = rows.flatten.take (i * c) ++ r' ++ rows.flatten.drop (i * c + c)
  | [], i, r, r', _, h, _ => by simp at h
  | x :: rows, 0, r, r', hr, h, hl => by
    have hx : x.length = c := hr x (by simp)
    simp [List.flatten_cons, ← hx]
  | x :: rows, i + 1, r, r', hr, h, hl => by
    have hx : x.length = c := hr x (by simp)
    have ih := flatten_set (rows := rows) (i := i) (r := r) (r' := r') (fun r h => hr r (List.mem_cons_of_mem _ h)) (by simpa using h) hl
    simp only [List.set_cons_succ, List.flatten_cons, ih]
    have e1 : (i + 1) * c = x.length + i * c := by rw [hx, Nat.succ_mul]; omega
    rw [e1, List.take_length_add_append, Nat.add_assoc, List.drop_length_add_append]
    simp [List.append_assoc]
/-- Writing an element (or a part of one) of a row of the call's own. -/
theorem run_store_elem {T : TypeId} {x y : Operand} {v : Value} {k e c n cap b off p j i : Nat} {A : Option Addr} {rows : List (List Value)} {r r' : List Value}
    (ho : o.op = .store T x y) (hx : ρ x = .pointer (some ⟨b, p, none⟩)) (hy : ρ y = v) (h : Sep Bs w0 w L) (hi : L[k]? = some (.row e c A n cap rows)) (hA : A = some ⟨b, off, none⟩) (hr : rows[i]? = some r)
    (hp : p = off + i * c + j) (hs : sizeV P T = some v.cells.size) (hle : Nat.ble (j + v.cells.size) c = true) (h1 : allCells v.cells.toList = true) (hr' : splice r j v.cells.toList = r') :
    ∃ w', (execOp ρ o).run P w = .ok .skip w' ∧ Sep Bs w0 w' (L.set k (.row e c A n cap (rows.set i r'))) ∧ Grow w w' ∧ ∀ q, q ≠ b → w'.heap[q]? = w.heap[q]? := by
  obtain ⟨hown, hlen, hrl⟩ := h.hold _ (List.mem_of_getElem? hi)
  have hilt := (List.getElem?_eq_some_iff.1 hr).1
  have hrc : r.length = c := hrl r (List.mem_of_getElem? hr)
  have hle' : j + v.cells.size ≤ c := by simpa using hle
  rcases hown.2 with ⟨_, h0⟩ | ⟨g, cap', cur, hv, _, hh, hnc, hcm, hcs, htk⟩
  · omega
  · injection hv with e1 _ e3
    subst e3
    rw [hA] at e1
    simp only [Option.some.injEq, Addr.mk.injEq] at e1
    obtain ⟨rfl, rfl, _⟩ := e1
    have hin : i * c + c ≤ n * c := by rw [← Nat.succ_mul]; exact Nat.mul_le_mul_right c (by omega)
    have hnc' : n * c ≤ cap * c := Nat.mul_le_mul_right c hnc
    have hfit : p + v.cells.size ≤ cur.toList.length := by rw [Array.length_toList, hcs]; omega
    have hst := run_store_row (P := P) (w := w) ho hx hy (cs := cur.toList) (T' := e) (by simpa using hh) hs (by apply Nat.ble_eq_true_of_le; exact hfit) h1
    have hr'l : r'.length = c := by
      subst hr'; unfold splice; simp only [List.length_append, List.length_take, List.length_drop, Array.length_toList]; omega
    have hflat : (rows.set i r').flatten = (splice cur.toList p v.cells.toList).take (n * c) := by
      rw [flatten_set hrl hr hr'l, ← htk, ← hr']
      have hrv : r = (cur.toList.drop (i * c)).take c := by
        apply List.ext_getElem?
        intro q
        by_cases hq : q < c
        · have := flatten_get hrl hr q _ (List.getElem?_eq_getElem (by rw [hrc]; exact hq))
          rw [← htk, List.getElem?_take] at this
          rw [if_pos (by omega)] at this
          rw [List.getElem?_eq_getElem (by rw [hrc]; exact hq), List.getElem?_take, if_pos hq, List.getElem?_drop, this]
        · rw [List.getElem?_eq_none (by omega), List.getElem?_eq_none (by simp; omega)]
      rw [hrv]
      subst hp
      apply List.ext_getElem?
      intro q
      simp only [splice, List.getElem?_append, List.getElem?_take, List.getElem?_drop, List.length_take, List.length_drop, List.length_append, Array.length_toList]
      have hsz : cur.size = cap * c := hcs
      repeat' split
      all_goals first
        | rfl
        | omega
        | (congr 1; omega)
        | (exfalso; omega)
    refine ⟨_, hst, ?_, setRow_grow w b _, fun q hq => setRow_else w b q _ hq⟩
    refine h.turn k hi trivial ⟨⟨?_, .inr ⟨b, cap, (splice cur.toList p v.cells.toList).toArray, by rw [hA], Nat.zero_le _, setRow_at w b _ cur e hh, hnc, hcm, ?_, ?_⟩⟩, by simpa using hlen, ?_⟩ (setRow_grow w b _)
      (fun q _ hq => setRow_else w b q _ (fun e => hq (by subst e; exact ⟨_, hA, rfl⟩))) (fun q hq => .inl hq)
    · rw [length_flatten_rows (c := c), List.length_set, hlen]
      intro q hq
      rcases List.mem_or_eq_of_mem_set hq with h' | h'
      · exact hrl q h'
      · rw [h']; exact hr'l
    · simp only [List.size_toArray, splice, List.length_append, List.length_take, List.length_drop, Array.length_toList]; omega
    · rw [hflat]
    · intro q hq
      rcases List.mem_or_eq_of_mem_set hq with h' | h'
      · exact hrl q h'
      · rw [h']; exact hr'l
end
end Rt
end Go
