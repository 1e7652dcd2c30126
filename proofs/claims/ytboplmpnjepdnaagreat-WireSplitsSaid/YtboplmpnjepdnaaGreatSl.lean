/-
  General lemmas on slices: what a slice reads, rows of the call's own, loads, appends. No program in sight.
-/
import Derived.Test.YtboplmpnjepdnaaGreatBase
import Derived.CellFam
import Derived.Laws.AppendOwnNone
import Derived.Laws.BytesString
namespace Go
open Go.RowKit

theorem Addr.add_mk (b o n : Nat) : (⟨b, o, none⟩ : Addr).add n = ⟨b, o + n, none⟩ := by
  unfold Addr.add; split
  · next h => subst h; rfl
  · rfl

/-- The slice '.slice A n cap' of rows of c cells reads, in w and below block B, as these rows. -/
def SlB (w : World) (B c : Nat) (A : Option Addr) (n : Nat) (rows : List (List Value)) : Prop :=
  rows.length = n ∧ (0 < n → ∃ b off, A = some ⟨b, off, none⟩ ∧ b < B ∧
    ∀ i r, rows[i]? = some r → r.length = c ∧ ∀ j u, r[j]? = some u → w.cell? ⟨b, off + i * c + j, none⟩ = some u)

section
variable {w w' : World} {B B' c n : Nat} {A : Option Addr} {rows : List (List Value)}
theorem SlB.nil (w : World) (B c : Nat) (A : Option Addr) : SlB w B c A 0 [] := ⟨rfl, fun h => absurd h (by omega)⟩
theorem SlB.keep (h : SlB w B c A n rows) (hk : ∀ b o, b < B → w'.cell? ⟨b, o, none⟩ = w.cell? ⟨b, o, none⟩) : SlB w' B c A n rows :=
  ⟨h.1, fun hn => by
    obtain ⟨b, off, e, hb, hc⟩ := h.2 hn
    exact ⟨b, off, e, hb, fun i r hr => ⟨(hc i r hr).1, fun j u hu => (hk _ _ hb).trans ((hc i r hr).2 j u hu)⟩⟩⟩
theorem SlB.more (h : SlB w B c A n rows) (hB : B ≤ B') : SlB w B' c A n rows :=
  ⟨h.1, fun hn => by
    obtain ⟨b, off, e, hb, hc⟩ := h.2 hn
    exact ⟨b, off, e, by omega, hc⟩⟩
theorem SlB.below (h : SlB w B c A n rows) (hb : Below B w w') : SlB w' B c A n rows := h.keep fun b o hp => hb.cell (p := ⟨b, o, none⟩) hp
theorem SlB.ext (h : SlB w B c A n rows) (hB : B ≤ w.heap.size) (X : Array Obj) (d : Nat) : SlB (w.ext X d) B c A n rows :=
  h.keep fun b o hp => World.cell?_ext w X d b o (by omega)
theorem SlB.alloc (h : SlB w B c A n rows) (hB : B ≤ w.heap.size) (o : Obj) : SlB (w.alloc o) B c A n rows :=
  h.keep fun b o' hp => World.cell?_alloc_past (w := w) o b o' (by omega)
theorem SlB.ext' (h : SlB w w.heap.size c A n rows) (X : Array Obj) (d : Nat) : SlB (w.ext X d) (w.ext X d).heap.size c A n rows :=
  (h.ext (Nat.le_refl _) X d).more (by simp)
theorem SlB.at_ (h : SlB w B c A n rows) {k : Nat} (hk : k < n) : ∃ b off r, A = some ⟨b, off, none⟩ ∧ b < B ∧ rows[k]? = some r ∧ r.length = c ∧
    ∀ j u, r[j]? = some u → w.cell? ⟨b, off + k * c + j, none⟩ = some u := by
  obtain ⟨b, off, e, hb, hc⟩ := h.2 (by omega)
  have hl : k < rows.length := by rw [h.1]; exact hk
  exact ⟨b, off, rows[k], e, hb, List.getElem?_eq_getElem hl, hc k _ (List.getElem?_eq_getElem hl)⟩
/-- The first rows alone. -/
theorem SlB.take (h : SlB w B c A n rows) {k : Nat} (hk : k ≤ n) : SlB w B c A k (rows.take k) := by
  refine ⟨by rw [List.length_take, h.1]; omega, fun hn => ?_⟩
  obtain ⟨b, off, e, hb, hc⟩ := h.2 (by omega)
  refine ⟨b, off, e, hb, fun i r hr => hc i r ?_⟩
  rw [List.getElem?_take] at hr
  split at hr
  · exact hr
  · cases hr
/-- A cut 's[k:]'. -/
theorem SlB.drop (h : SlB w B c A n rows) {k cap : Nat} (hk : k ≤ n) (hcap : n ≤ cap) :
    SlB w B c (if cap = k then A else A.map (·.add (k * c))) (n - k) (rows.drop k) := by
  refine ⟨by rw [List.length_drop, h.1], fun hn => ?_⟩
  obtain ⟨b, off, rfl, hb, hc⟩ := h.2 (by omega)
  rw [if_neg (by omega)]
  refine ⟨b, off + k * c, by simp [Addr.add_mk], hb, fun i r hr => ?_⟩
  rw [List.getElem?_drop] at hr
  obtain ⟨h1, h2⟩ := hc _ r hr
  refine ⟨h1, fun j u hu => ?_⟩
  have := h2 j u hu
  rw [Nat.add_mul, ← Nat.add_assoc] at this
  exact this
end

/-- Rows of the call's own. -/
abbrev Own (w : World) (base : Nat) (e : TypeId) (c : Nat) (A : Option Addr) (n cap : Nat) (xs : List Value) : Prop := w.ownsRow base e c (.slice A n cap) n xs

section
variable {w w' : World} {base e c n cap : Nat} {A : Option Addr} {xs : List Value} {v : Value}
theorem own_form (h : w.ownsRow base e c v n xs) : ∃ A cap, v = .slice A n cap := by
  rcases h.2 with ⟨rfl, rfl⟩ | ⟨g, cap, cur, rfl, _⟩
  · exact ⟨none, 0, rfl⟩
  · exact ⟨_, _, rfl⟩
theorem Own.below (h : w.ownsRow base e c v n xs) (hb : Below w.heap.size w w') : w'.ownsRow base e c v n xs := by
  refine h.kept (row := none) ⟨hb.os, hb.tape, hb.output, hb.size, fun k hk _ => hb.block k hk⟩ ?_
  cases hv : v.ownBlock with
  | none => exact .inl rfl
  | some k => exact .inr (by simp)
theorem Own.ext (h : w.ownsRow base e c v n xs) (X : Array Obj) (d : Nat) : (w.ext X d).ownsRow base e c v n xs := Own.below h (World.below_ext w X d)
theorem Own.base_le (h : w.ownsRow base e c v n xs) {b : Nat} (hb : b ≤ base) : w.ownsRow b e c v n xs := by
  refine ⟨h.1, ?_⟩
  rcases h.2 with h2 | ⟨g, cap, cur, hv, hg, r⟩
  · exact .inl h2
  · exact .inr ⟨g, cap, cur, hv, by omega, r⟩
theorem Own.cap_le (h : Own w base e c A n cap xs) : n ≤ cap ∧ cap ≤ maxLen := by
  rcases h.2 with ⟨h1, h2⟩ | ⟨g, cap', cur, hv, _, _, h1, h2, _⟩
  · injection h1 with _ _ h3; subst h2; subst h3; exact ⟨Nat.le_refl _, by unfold maxLen; omega⟩
  · injection hv with _ _ h3; subst h3; exact ⟨h1, h2⟩
theorem flatten_get {rows : List (List Value)} {c : Nat} (hr : ∀ r ∈ rows, r.length = c) : ∀ {i : Nat} {r : List Value}, rows[i]? = some r → ∀ j u, r[j]? = some u → rows.flatten[i * c + j]? = some u := by
  induction rows with
  | nil => intro i r h; simp at h
  | cons x rows ih =>
    intro i r h j u hu
    have hx : x.length = c := hr x (by simp)
    cases i with
    | zero =>
      simp at h; subst h
      rw [List.flatten_cons, Nat.zero_mul, Nat.zero_add, List.getElem?_append_left (by
        rcases Nat.lt_or_ge j x.length with h' | h'
        · exact h'
        · rw [List.getElem?_eq_none h'] at hu; cases hu)]
      exact hu
    | succ i =>
      rw [List.flatten_cons, List.getElem?_append_right (by rw [hx, Nat.succ_mul]; omega)]
      have := ih (fun r hr' => hr r (List.mem_cons_of_mem _ hr')) (i := i) (r := r) (by simpa using h) j u hu
      rw [← this, hx]
      congr 1
      rw [Nat.succ_mul]; omega
theorem length_flatten_rows {rows : List (List Value)} {c : Nat} (hr : ∀ r ∈ rows, r.length = c) : rows.flatten.length = rows.length * c := by
  induction rows with
  | nil => simp
  | cons x rows ih =>
    rw [List.flatten_cons, List.length_append, hr x (by simp), ih fun r h => hr r (List.mem_cons_of_mem _ h), List.length_cons, Nat.succ_mul]; omega
/-- What is owned can be read. -/
theorem Own.reads {rows : List (List Value)} (h : Own w base e c A n cap rows.flatten) (hr : ∀ r ∈ rows, r.length = c) (hl : rows.length = n) : SlB w w.heap.size c A n rows := by
  refine ⟨hl, fun hn => ?_⟩
  rcases h.2 with ⟨_, h2⟩ | ⟨g, cap', cur, hv, _, hh, h1, h2, h3, h4⟩
  · omega
  · injection hv with hA _ h5
    subst hA
    refine ⟨g, 0, rfl, ?_, fun i r hi => ⟨hr r (List.mem_of_getElem? hi), fun j u hu => ?_⟩⟩
    · rcases Nat.lt_or_ge g w.heap.size with h' | h'
      · exact h'
      · rw [Array.getElem?_eq_none h'] at hh; cases hh
    · rw [Nat.zero_add, cell_of_row w g _ cur e (0, 0) hh]
      have := flatten_get hr hi j u hu
      rw [← h4, List.getElem?_take] at this
      split at this
      · simpa using this
      · cases this
end

section
variable {P : Program} {ops : Array Oper} {rest : List Oper} {o : Oper} {a : Act} {w : World} {Q : Exit → Act → World → Prop}
/-- Loading a struct (or an array) that lies row-wise at an address. -/
theorem wpList_load_at (hgd : o.guard = none) (ty : TypeId) (x : Operand) (ho : o.op = .load ty x) (b off : Nat) (hx : a.eval x = .pointer (some ⟨b, off, none⟩))
    (cs : List Value) (d : TypeDesc) (hu : P.underlying ty = some d) (hd : (match d with | .struct _ | .array _ _ => true | _ => false) = true) (hi : (P.info? ty).map (·.size) = some cs.length)
    (hc : ∀ j u, cs[j]? = some u → w.cell? ⟨b, off + j, none⟩ = some u)
    (h : wpList P ops Q rest (a.put o.dst (.agg cs.toArray)) w) : wpList P ops Q (o :: rest) a w := by
  refine wpList_plain hgd fun K hK => ?_
  have hl : (loadCells ⟨b, off, none⟩ cs.length).run P w = .ok cs.toArray w :=
    run_loadCells_list (P := P) w ⟨b, off, none⟩ cs (fun j v hv => by rw [Addr.add_mk]; exact hc j v hv)
  have hr : (loadVar ty ⟨b, off, none⟩).run P w = .ok (.agg cs.toArray) w := by
    cases hq : P.info? ty with
    | none => simp [hq] at hi
    | some i =>
      have hs : i.size = cs.length := by simpa [hq] using hi
      have hagg : (isAgg ty).run P w = .ok true w := by
        unfold isAgg
        rw [Sem.run_bind, run_underlying hu w]
        cases d <;> simp_all
      simp [loadVar, Sem.run_bind, hagg, sizeOf, typeInfo, hq, hs, hl]
  unfold Oper.wp execOp
  simp only [ho, hx, Instr.loadAt, Instr.sureAddr, Sem.run_bind, Sem.run_pure, Result.andThen_ok, hr]
  exact hK _ _ h
end
end Go
