/-
  Laws for operations that make, read or write memory, for the walks that a program writes. No program in sight.
-/
import Derived.Test.YtboplmpnjepdnaaGreatOps
namespace Go
namespace Rt
open Go.RowKit

section
variable {P : Program} {ρ : Operand → Value} {w w' w0 : World} {o : Oper} {Bs : List Nat} {L : List Res}

/-! ### Making variables -/
theorem Ext.one (w : World) (ob : Obj) : Ext w (w.alloc ob) := (Ext.refl w).alloc ob
theorem Sep.box_new (h : Sep Bs w0 w L) (T : TypeId) (cs : List Value) : Sep Bs w0 (w.alloc (.cells cs.toArray T)) (.box w.heap.size T cs :: L) :=
  h.add (Ext.one w _) (heap_alloc_new w _) (fun k hk => by simp only [Res.fp] at hk; omega)
def zeroOf (P : Program) (T : TypeId) : Option (List Value) := match P.info? T with | some i => (match i.zero with | some z => some z.cells.toList | none => none) | none => none
theorem run_alloc {T : TypeId} {zs : List Value} (ho : o.op = .alloc T) (hz : zeroOf P T = some zs) : (execOp ρ o).run P w = .ok (.value (.pointer (some ⟨w.heap.size, 0, none⟩))) (w.alloc (.cells zs.toArray T)) := by
  unfold zeroOf at hz
  split at hz
  · rename_i i hi
    split at hz
    · rename_i z hzz
      simp only [Option.some.injEq] at hz
      subst hz
      unfold execOp
      simp [ho, Instr.alloc, zeroValue, typeInfo, hi, hzz, newVar, newRow]
    · cases hz
  · cases hz
theorem run_box {T : TypeId} {x : Operand} {v : Value} (ho : o.op = .box T x) (hx : ρ x = v) : (execOp ρ o).run P w = .ok (.value (.pointer (some ⟨w.heap.size, 0, none⟩))) (w.alloc (.cells v.cells T)) := by
  unfold execOp
  simp [ho, hx, Instr.box, newVar, newRow]

/-! ### Writing -/
theorem setRow_size (w : World) (g : Nat) (cs : Array Value) : (w.setRow g cs).heap.size = w.heap.size := by simp [World.setRow]
theorem setRow_else (w : World) (g k : Nat) (cs : Array Value) (h : k ≠ g) : (w.setRow g cs).heap[k]? = w.heap[k]? := by
  simp only [World.setRow, Array.getElem?_modify]
  rw [if_neg (fun e => h e.symm)]
theorem setRow_below (w : World) (g : Nat) (cs : Array Value) {B : Nat} (h : B ≤ g) : Below B w (w.setRow g cs) :=
  ⟨rfl, rfl, rfl, by rw [setRow_size]; exact Nat.le_refl _, fun k hk => setRow_else w g k cs (by omega)⟩
theorem setRow_grow (w : World) (g : Nat) (cs : Array Value) : Grow w (w.setRow g cs) := ⟨rfl, rfl, rfl, by rw [setRow_size]; exact Nat.le_refl _⟩
def sizeV (P : Program) (T : TypeId) : Option Nat := (P.info? T).map (·.size)
theorem run_storeVar {T : TypeId} {v : Value} {g off : Nat} {T' : TypeId} {cs : List Value} (hg : w.heap[g]? = some (.cells cs.toArray T' (0, 0))) (hs : sizeV P T = some v.cells.size) (hle : off + v.cells.size ≤ cs.length)
    (h1 : ∀ u ∈ v.cells.toList, u.oneCell' = true) : (storeVar T ⟨g, off, none⟩ v).run P w = .ok () (w.setRow g (splice cs off v.cells.toList).toArray) := by
  have h := run_storeCells_at (P := P) g off T' v.cells.toList 0 cs.toArray w hg (by simpa using hle) h1
  simp only [Nat.add_zero] at h
  unfold sizeV at hs
  cases hq : P.info? T with
  | none => simp [hq] at hs
  | some i =>
    have hs' : i.size = v.cells.size := by simpa [hq] using hs
    simp [storeVar, sizeOf, typeInfo, hq, hs', h, splice]
theorem allCells_one {l : List Value} (h : allCells l = true) : ∀ u ∈ l, u.oneCell' = true := by
  induction l with
  | nil => intro u hu; cases hu
  | cons v r ih =>
    simp only [allCells, Bool.and_eq_true] at h
    intro u hu
    rcases List.mem_cons.1 hu with rfl | hu
    · cases u <;> simp_all [cellB, Value.oneCell']
    · exact ih h.2 u hu
theorem run_store_row {T : TypeId} {x y : Operand} {v : Value} {g off : Nat} {T' : TypeId} {cs : List Value} (ho : o.op = .store T x y) (hx : ρ x = .pointer (some ⟨g, off, none⟩)) (hy : ρ y = v)
    (hg : w.heap[g]? = some (.cells cs.toArray T' (0, 0))) (hs : sizeV P T = some v.cells.size) (hle : Nat.ble (off + v.cells.size) cs.length = true) (h1 : allCells v.cells.toList = true) :
    (execOp ρ o).run P w = .ok .skip (w.setRow g (splice cs off v.cells.toList).toArray) := by
  have h := run_storeVar (P := P) (w := w) hg hs (by simpa using hle) (allCells_one h1)
  unfold execOp
  simp [ho, hx, hy, Instr.storeAt, Instr.sureAddr, h]
theorem setRow_at (w : World) (g : Nat) (cs cs' : Array Value) (t : TypeId) (hg : w.heap[g]? = some (.cells cs' t (0, 0))) : (w.setRow g cs).heap[g]? = some (.cells cs t (0, 0)) := setRow_heap w g cs' cs t _ hg
/-- Writing to a variable of the call's own. -/
theorem run_store_box {T : TypeId} {x y : Operand} {v : Value} {i b off : Nat} {T' : TypeId} {cs : List Value} (ho : o.op = .store T x y) (hx : ρ x = .pointer (some ⟨b, off, none⟩)) (hy : ρ y = v)
    (h : Sep Bs w0 w L) (hi : L[i]? = some (.box b T' cs)) (hs : sizeV P T = some v.cells.size) (hle : Nat.ble (off + v.cells.size) cs.length = true) (h1 : allCells v.cells.toList = true) {cs' : List Value} (hc : splice cs off v.cells.toList = cs') :
    ∃ w', (execOp ρ o).run P w = .ok .skip w' ∧ Sep Bs w0 w' (L.set i (.box b T' cs')) ∧ Grow w w' ∧ ∀ k, k ≠ b → w'.heap[k]? = w.heap[k]? := by
  subst hc
  have hg := h.hold _ (List.mem_of_getElem? hi)
  refine ⟨_, run_store_row ho hx hy hg hs hle h1, ?_, setRow_grow w b _, fun k hk => setRow_else w b k _ hk⟩
  exact h.turn i hi trivial (setRow_at w b _ _ T' hg) (setRow_grow w b _) (fun k _ hk => setRow_else w b k _ hk) (fun k hk => .inl hk)

/-! ### Slices -/
/-- The slice '.slice A n cap' of rows of c cells reads as these rows, in blocks of F. -/
def SlF (F : Nat → Prop) (c : Nat) (A : Option Addr) (n : Nat) (rows : List (List Value)) (w : World) : Prop :=
  rows.length = n ∧ (0 < n → ∃ b off, A = some ⟨b, off, none⟩ ∧ F b ∧
    ∀ i r, rows[i]? = some r → r.length = c ∧ ∀ j u, r[j]? = some u → w.cell? ⟨b, off + i * c + j, none⟩ = some u)
theorem SlF.local {F : Nat → Prop} {c n : Nat} {A : Option Addr} {rows : List (List Value)} : Local F (SlF F c A n rows) := by
  intro w w' _ hk h
  refine ⟨h.1, fun hn => ?_⟩
  obtain ⟨b, off, e, hb, hc⟩ := h.2 hn
  exact ⟨b, off, e, hb, fun i r hr => ⟨(hc i r hr).1, fun j u hu => (World.cell?_of_block (w := w) (hk b hb)).trans ((hc i r hr).2 j u hu)⟩⟩
theorem SlF.nil (F : Nat → Prop) (c : Nat) (A : Option Addr) (w : World) : SlF F c A 0 [] w := ⟨rfl, fun h => absurd h (by omega)⟩
theorem SlF.more {F F' : Nat → Prop} {c n : Nat} {A : Option Addr} {rows : List (List Value)} (h : SlF F c A n rows w) (hF : ∀ k, F k → F' k) : SlF F' c A n rows w :=
  ⟨h.1, fun hn => let ⟨b, off, e, hb, hc⟩ := h.2 hn; ⟨b, off, e, hF b hb, hc⟩⟩
theorem SlF.take {F : Nat → Prop} {c n : Nat} {A : Option Addr} {rows : List (List Value)} (h : SlF F c A n rows w) {k : Nat} (hk : k ≤ n) : SlF F c A k (rows.take k) w := by
  refine ⟨by rw [List.length_take, h.1]; omega, fun hn => ?_⟩
  obtain ⟨b, off, e, hb, hc⟩ := h.2 (by omega)
  refine ⟨b, off, e, hb, fun i r hr => hc i r ?_⟩
  rw [List.getElem?_take] at hr
  split at hr
  · exact hr
  · cases hr
theorem SlF.drop {F : Nat → Prop} {c n : Nat} {A : Option Addr} {rows : List (List Value)} (h : SlF F c A n rows w) {k cap : Nat} (hk : k ≤ n) (hcap : n ≤ cap) :
    SlF F c (if cap = k then A else A.map (·.add (k * c))) (n - k) (rows.drop k) w := by
  refine ⟨by rw [List.length_drop, h.1], fun hn => ?_⟩
  obtain ⟨b, off, rfl, hb, hc⟩ := h.2 (by omega)
  rw [if_neg (by omega)]
  refine ⟨b, off + k * c, by simp [Addr.add_mk], hb, fun i r hr => ?_⟩
  rw [List.getElem?_drop] at hr
  obtain ⟨h1, h2⟩ := hc _ r hr
  refine ⟨h1, fun j u hu => ?_⟩
  have := h2 j u hu
  rw [Nat.add_mul, ← Nat.add_assoc] at this
  exact this
/-- A row of the call's own, read. -/
def rowF (A : Option Addr) (k : Nat) : Prop := ∃ a, A = some a ∧ k = a.block
theorem row_reads {e c n cap : Nat} {A : Option Addr} {rows : List (List Value)} (h : Res.holds w (.row e c A n cap rows)) : SlF (rowF A) c A n rows w := by
  obtain ⟨ho, hl, hr⟩ := h
  have h := Own.reads (rows := rows) ho hr hl
  refine ⟨h.1, fun hn => ?_⟩
  obtain ⟨b, off, hA, hb, hc⟩ := h.2 hn
  exact ⟨b, off, hA, ⟨_, hA, rfl⟩, hc⟩
/-- What a resource lets one read of a slice. -/
inductive Reads : Res → Nat → Option Addr → Nat → List (List Value) → Prop
  | row {e c A n cap rows} : Reads (.row e c A n cap rows) c A n rows
  | ro {F c A n rows} : Reads (.ro F (SlF F c A n rows)) c A n rows
theorem Sep.reads {i : Nat} {r : Res} {c n : Nat} {A : Option Addr} {rows : List (List Value)} (h : Sep Bs w0 w L) (hi : L[i]? = some r) (hr : Reads r c A n rows) : SlF r.fp c A n rows w := by
  have hh := h.hold _ (List.mem_of_getElem? hi)
  cases hr with
  | row => exact row_reads hh
  | ro => exact hh.1
theorem Sep.row_cap {i e c n cap : Nat} {A : Option Addr} {rows : List (List Value)} (h : Sep Bs w0 w L) (hi : L[i]? = some (.row e c A n cap rows)) : n ≤ cap ∧ cap ≤ maxLen :=
  Own.cap_le (h.hold _ (List.mem_of_getElem? hi)).1
theorem getI_some {α : Type} {xs : List α} {i : Int} {x : α} (h : getI xs i = some x) : 0 ≤ i ∧ xs[i.toNat]? = some x ∧ i.toNat < xs.length := by
  unfold getI at h
  split at h
  · rename_i h0; exact ⟨h0, h, (List.getElem?_eq_some_iff.1 h).1⟩
  · cases h
/-- The address of an element. -/
theorem run_indexAddr {t e : TypeId} {x y : Operand} {k : IntKind} {i : Int} {c n cap : Nat} {A : Option Addr} {rows : List (List Value)} {F : Nat → Prop} {α : Type} {xs : List α} {d : α}
    (ho : o.op = .indexAddr t x y) (ht : P.underlying t = some (.slice e)) (hc : sizeV P e = some c) (hx : ρ x = .slice A n cap) (hy : ρ y = .int k i) (hs : SlF F c A n rows w) (hn : xs.length = n) (hd : getI xs i = some d) :
    ∃ b off, A = some ⟨b, off, none⟩ ∧ (execOp ρ o).run P w = .ok (.value (.pointer (some ⟨b, off + i.toNat * c, none⟩))) w := by
  obtain ⟨h0, _, hlt⟩ := getI_some hd
  obtain ⟨b, off, hA, _, _⟩ := hs.2 (by omega)
  refine ⟨b, off, hA, ?_⟩
  subst hA
  unfold sizeV at hc
  cases hq : P.info? e with
  | none => simp [hq] at hc
  | some inf =>
    have hs' : inf.size = c := by simpa [hq] using hc
    unfold execOp
    simp [ho, hx, hy, Instr.indexAt, asIntOf, run_underlying ht, sizeOf, typeInfo, hq, hs', h0, Addr.add_mk]
    omega
/-- Reading at an element's address. -/
theorem run_load_elem {T : TypeId} {x : Operand} {b off p c n j : Nat} {A : Option Addr} {rows : List (List Value)} {F : Nat → Prop} {i : Nat} {r : List Value} {v : Value}
    (ho : o.op = .load T x) (hx : ρ x = .pointer (some ⟨b, p, none⟩)) (hs : SlF F c A n rows w) (hA : A = some ⟨b, off, none⟩) (hr : rows[i]? = some r) (hp : p = off + i * c + j) (hv : loadVal P T r j = some v) :
    (execOp ρ o).run P w = .ok (.value v) w := by
  have hlt := (List.getElem?_eq_some_iff.1 hr).1
  obtain ⟨b', off', hA', _, hc⟩ := hs.2 (by rw [← hs.1]; omega)
  rw [hA] at hA'
  simp only [Option.some.injEq, Addr.mk.injEq] at hA'
  obtain ⟨rfl, rfl, _⟩ := hA'
  have := run_loadVal (P := P) (T := T) (base := off + i * c) hv (fun j u hu => (hc i r hr).2 j u hu)
  subst hp
  exact run_load ho hx this
theorem rows_get {α : Type} {xs : List α} {f : α → List Value} {i : Int} {d : α} (h : getI xs i = some d) : (xs.map f)[i.toNat]? = some (f d) := by
  rw [List.getElem?_map, (getI_some h).2.1]; rfl
end
end Rt
end Go
