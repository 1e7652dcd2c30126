/-
  General lemmas on worlds that grow, and on regions that draw their order. No program in sight.
-/
import Derived.WalkKit
import Derived.WalkSpells
import Derived.WalkLawsBesides
import Derived.Handy
import Derived.Deep.QuietTactic
import Derived.BigQuiet
import Derived.BigGuardPart
import Derived.Lib.Hide
namespace Go
open Go.RowKit

/-- The world with some more blocks, and another count of draws. -/
def World.ext (w : World) (X : Array Obj) (d : Nat) : World := { w with heap := w.heap ++ X, drawn := d }

section
variable (w : World) (X : Array Obj) (d : Nat)
@[go_sem, simp] theorem World.size_ext : (w.ext X d).heap.size = w.heap.size + X.size := by simp [World.ext]
theorem World.heap_ext (k : Nat) (h : k < w.heap.size) : (w.ext X d).heap[k]? = w.heap[k]? := by
  show (w.heap ++ X)[k]? = _
  rw [Array.getElem?_append_left h]
@[go_sem] theorem World.cell?_ext (n i : Nat) (hn : n < w.heap.size) : (w.ext X d).cell? ⟨n, i, none⟩ = w.cell? ⟨n, i, none⟩ :=
  World.cell?_of_block (w := w) (World.heap_ext w X d n hn)
@[go_sem] theorem World.frozen?_ext (n i : Nat) (hn : n < w.heap.size) : (w.ext X d).frozen? ⟨n, i, none⟩ = w.frozen? ⟨n, i, none⟩ :=
  World.frozen?_of_block (w := w) (World.heap_ext w X d n hn)
@[go_sem, simp] theorem World.drew_ext : (w.ext X d).drew = w.ext X (d + 1) := rfl
@[go_sem, simp] theorem World.drewN_ext (n : Nat) : (w.ext X d).drewN n = w.ext X (d + n) := rfl
@[go_sem, simp] theorem World.ext_drew : w.drew.ext X d = w.ext X d := rfl
@[go_sem, simp] theorem World.ext_drewN (n : Nat) : (w.drewN n).ext X d = w.ext X d := rfl
@[go_sem, simp] theorem World.ext_ext (Y : Array Obj) (e : Nat) : (w.ext X d).ext Y e = w.ext (X ++ Y) e := by
  simp [World.ext, Array.append_assoc]
@[go_sem] theorem World.setCell_ext (n i : Nat) (v : Value) (hn : n < w.heap.size) :
    (w.ext X d).setCell ⟨n, i, none⟩ v = (w.setCell ⟨n, i, none⟩ v).ext X d := by
  simp only [World.setCell, World.ext]
  congr 1
  apply Array.ext_getElem?
  intro k
  by_cases hk : k < w.heap.size
  · rw [Array.getElem?_modify, Array.getElem?_append_left hk, Array.getElem?_append_left (by rw [Array.size_modify]; exact hk), Array.getElem?_modify]
  · rw [Array.getElem?_modify, if_neg (by omega), Array.getElem?_append_right (by omega), Array.getElem?_append_right (by rw [Array.size_modify]; omega), Array.size_modify]
@[go_sem] theorem World.shape?_ext (n : Nat) (hn : n < w.heap.size) : (w.ext X d).shape? n = w.shape? n := by
  simp only [World.shape?, World.heap_ext w X d n hn]
theorem World.alloc_ext (o : Obj) : (w.ext X d).alloc o = w.ext (X.push o) d := by
  show ({ w with heap := (w.heap ++ X).push o, drawn := d } : World) = _
  simp [World.ext, ← Array.push_append]
theorem World.alloc_as_ext (o : Obj) : w.alloc o = w.ext #[o] w.drawn := by
  simp only [World.ext]; rfl
theorem World.self_as_ext : w = w.ext #[] w.drawn := by simp only [World.ext, Array.append_empty]
theorem World.drew_as_ext : w.drew = w.ext #[] (w.drawn + 1) := by simp only [World.ext, Array.append_empty]; rfl
theorem World.below_ext : Below w.heap.size w (w.ext X d) :=
  ⟨rfl, rfl, rfl, by simp, fun k hk => World.heap_ext w X d k hk⟩
end

/-! A block's number lies below the heap's size: said for each number of later blocks, since the walk's side conditions do not nest. -/
@[go_sem] theorem lt_self_0 (a : Nat) : (a < a + 1) = True := by simp
@[go_sem] theorem lt_self_1 (a c0 : Nat) : (a < a + 1 + c0) = True := by simp; try omega
@[go_sem] theorem lt_base_1 (a b c0 : Nat) (h : a < b) : a < b + c0 := by omega
@[go_sem] theorem lt_self_2 (a c0 c1 : Nat) : (a < a + 1 + c0 + c1) = True := by simp; try omega
@[go_sem] theorem lt_base_2 (a b c0 c1 : Nat) (h : a < b) : a < b + c0 + c1 := by omega
@[go_sem] theorem lt_self_3 (a c0 c1 c2 : Nat) : (a < a + 1 + c0 + c1 + c2) = True := by simp; try omega
@[go_sem] theorem lt_base_3 (a b c0 c1 c2 : Nat) (h : a < b) : a < b + c0 + c1 + c2 := by omega
@[go_sem] theorem lt_self_4 (a c0 c1 c2 c3 : Nat) : (a < a + 1 + c0 + c1 + c2 + c3) = True := by simp; try omega
@[go_sem] theorem lt_base_4 (a b c0 c1 c2 c3 : Nat) (h : a < b) : a < b + c0 + c1 + c2 + c3 := by omega
@[go_sem] theorem lt_self_5 (a c0 c1 c2 c3 c4 : Nat) : (a < a + 1 + c0 + c1 + c2 + c3 + c4) = True := by simp; try omega
@[go_sem] theorem lt_base_5 (a b c0 c1 c2 c3 c4 : Nat) (h : a < b) : a < b + c0 + c1 + c2 + c3 + c4 := by omega
@[go_sem] theorem lt_self_6 (a c0 c1 c2 c3 c4 c5 : Nat) : (a < a + 1 + c0 + c1 + c2 + c3 + c4 + c5) = True := by simp; try omega
@[go_sem] theorem lt_base_6 (a b c0 c1 c2 c3 c4 c5 : Nat) (h : a < b) : a < b + c0 + c1 + c2 + c3 + c4 + c5 := by omega
@[go_sem] theorem lt_self_7 (a c0 c1 c2 c3 c4 c5 c6 : Nat) : (a < a + 1 + c0 + c1 + c2 + c3 + c4 + c5 + c6) = True := by simp; try omega
@[go_sem] theorem lt_base_7 (a b c0 c1 c2 c3 c4 c5 c6 : Nat) (h : a < b) : a < b + c0 + c1 + c2 + c3 + c4 + c5 + c6 := by omega
@[go_sem] theorem lt_self_8 (a c0 c1 c2 c3 c4 c5 c6 c7 : Nat) : (a < a + 1 + c0 + c1 + c2 + c3 + c4 + c5 + c6 + c7) = True := by simp; try omega
@[go_sem] theorem lt_base_8 (a b c0 c1 c2 c3 c4 c5 c6 c7 : Nat) (h : a < b) : a < b + c0 + c1 + c2 + c3 + c4 + c5 + c6 + c7 := by omega
@[go_sem] theorem lt_self_9 (a c0 c1 c2 c3 c4 c5 c6 c7 c8 : Nat) : (a < a + 1 + c0 + c1 + c2 + c3 + c4 + c5 + c6 + c7 + c8) = True := by simp; try omega
@[go_sem] theorem lt_base_9 (a b c0 c1 c2 c3 c4 c5 c6 c7 c8 : Nat) (h : a < b) : a < b + c0 + c1 + c2 + c3 + c4 + c5 + c6 + c7 + c8 := by omega
@[go_sem] theorem lt_self_10 (a c0 c1 c2 c3 c4 c5 c6 c7 c8 c9 : Nat) : (a < a + 1 + c0 + c1 + c2 + c3 + c4 + c5 + c6 + c7 + c8 + c9) = True := by simp; try omega
@[go_sem] theorem lt_base_10 (a b c0 c1 c2 c3 c4 c5 c6 c7 c8 c9 : Nat) (h : a < b) : a < b + c0 + c1 + c2 + c3 + c4 + c5 + c6 + c7 + c8 + c9 := by omega
@[go_sem] theorem lt_self_11 (a c0 c1 c2 c3 c4 c5 c6 c7 c8 c9 c10 : Nat) : (a < a + 1 + c0 + c1 + c2 + c3 + c4 + c5 + c6 + c7 + c8 + c9 + c10) = True := by simp; try omega
@[go_sem] theorem lt_base_11 (a b c0 c1 c2 c3 c4 c5 c6 c7 c8 c9 c10 : Nat) (h : a < b) : a < b + c0 + c1 + c2 + c3 + c4 + c5 + c6 + c7 + c8 + c9 + c10 := by omega
@[go_sem] theorem lt_self_12 (a c0 c1 c2 c3 c4 c5 c6 c7 c8 c9 c10 c11 : Nat) : (a < a + 1 + c0 + c1 + c2 + c3 + c4 + c5 + c6 + c7 + c8 + c9 + c10 + c11) = True := by simp; try omega
@[go_sem] theorem lt_base_12 (a b c0 c1 c2 c3 c4 c5 c6 c7 c8 c9 c10 c11 : Nat) (h : a < b) : a < b + c0 + c1 + c2 + c3 + c4 + c5 + c6 + c7 + c8 + c9 + c10 + c11 := by omega
@[go_sem] theorem lt_self_13 (a c0 c1 c2 c3 c4 c5 c6 c7 c8 c9 c10 c11 c12 : Nat) : (a < a + 1 + c0 + c1 + c2 + c3 + c4 + c5 + c6 + c7 + c8 + c9 + c10 + c11 + c12) = True := by simp; try omega
@[go_sem] theorem lt_base_13 (a b c0 c1 c2 c3 c4 c5 c6 c7 c8 c9 c10 c11 c12 : Nat) (h : a < b) : a < b + c0 + c1 + c2 + c3 + c4 + c5 + c6 + c7 + c8 + c9 + c10 + c11 + c12 := by omega
@[go_sem] theorem lt_self_14 (a c0 c1 c2 c3 c4 c5 c6 c7 c8 c9 c10 c11 c12 c13 : Nat) : (a < a + 1 + c0 + c1 + c2 + c3 + c4 + c5 + c6 + c7 + c8 + c9 + c10 + c11 + c12 + c13) = True := by simp; try omega
@[go_sem] theorem lt_base_14 (a b c0 c1 c2 c3 c4 c5 c6 c7 c8 c9 c10 c11 c12 c13 : Nat) (h : a < b) : a < b + c0 + c1 + c2 + c3 + c4 + c5 + c6 + c7 + c8 + c9 + c10 + c11 + c12 + c13 := by omega
@[go_sem] theorem lt_self_15 (a c0 c1 c2 c3 c4 c5 c6 c7 c8 c9 c10 c11 c12 c13 c14 : Nat) : (a < a + 1 + c0 + c1 + c2 + c3 + c4 + c5 + c6 + c7 + c8 + c9 + c10 + c11 + c12 + c13 + c14) = True := by simp; try omega
@[go_sem] theorem lt_base_15 (a b c0 c1 c2 c3 c4 c5 c6 c7 c8 c9 c10 c11 c12 c13 c14 : Nat) (h : a < b) : a < b + c0 + c1 + c2 + c3 + c4 + c5 + c6 + c7 + c8 + c9 + c10 + c11 + c12 + c13 + c14 := by omega
@[go_sem] theorem lt_self_16 (a c0 c1 c2 c3 c4 c5 c6 c7 c8 c9 c10 c11 c12 c13 c14 c15 : Nat) : (a < a + 1 + c0 + c1 + c2 + c3 + c4 + c5 + c6 + c7 + c8 + c9 + c10 + c11 + c12 + c13 + c14 + c15) = True := by simp; try omega
@[go_sem] theorem lt_base_16 (a b c0 c1 c2 c3 c4 c5 c6 c7 c8 c9 c10 c11 c12 c13 c14 c15 : Nat) (h : a < b) : a < b + c0 + c1 + c2 + c3 + c4 + c5 + c6 + c7 + c8 + c9 + c10 + c11 + c12 + c13 + c14 + c15 := by omega
@[go_sem] theorem lt_self_17 (a c0 c1 c2 c3 c4 c5 c6 c7 c8 c9 c10 c11 c12 c13 c14 c15 c16 : Nat) : (a < a + 1 + c0 + c1 + c2 + c3 + c4 + c5 + c6 + c7 + c8 + c9 + c10 + c11 + c12 + c13 + c14 + c15 + c16) = True := by simp; try omega
@[go_sem] theorem lt_base_17 (a b c0 c1 c2 c3 c4 c5 c6 c7 c8 c9 c10 c11 c12 c13 c14 c15 c16 : Nat) (h : a < b) : a < b + c0 + c1 + c2 + c3 + c4 + c5 + c6 + c7 + c8 + c9 + c10 + c11 + c12 + c13 + c14 + c15 + c16 := by omega
@[go_sem] theorem lt_self_18 (a c0 c1 c2 c3 c4 c5 c6 c7 c8 c9 c10 c11 c12 c13 c14 c15 c16 c17 : Nat) : (a < a + 1 + c0 + c1 + c2 + c3 + c4 + c5 + c6 + c7 + c8 + c9 + c10 + c11 + c12 + c13 + c14 + c15 + c16 + c17) = True := by simp; try omega
@[go_sem] theorem lt_base_18 (a b c0 c1 c2 c3 c4 c5 c6 c7 c8 c9 c10 c11 c12 c13 c14 c15 c16 c17 : Nat) (h : a < b) : a < b + c0 + c1 + c2 + c3 + c4 + c5 + c6 + c7 + c8 + c9 + c10 + c11 + c12 + c13 + c14 + c15 + c16 + c17 := by omega
@[go_sem] theorem lt_self_19 (a c0 c1 c2 c3 c4 c5 c6 c7 c8 c9 c10 c11 c12 c13 c14 c15 c16 c17 c18 : Nat) : (a < a + 1 + c0 + c1 + c2 + c3 + c4 + c5 + c6 + c7 + c8 + c9 + c10 + c11 + c12 + c13 + c14 + c15 + c16 + c17 + c18) = True := by simp; try omega
@[go_sem] theorem lt_base_19 (a b c0 c1 c2 c3 c4 c5 c6 c7 c8 c9 c10 c11 c12 c13 c14 c15 c16 c17 c18 : Nat) (h : a < b) : a < b + c0 + c1 + c2 + c3 + c4 + c5 + c6 + c7 + c8 + c9 + c10 + c11 + c12 + c13 + c14 + c15 + c16 + c17 + c18 := by omega
@[go_sem] theorem lt_self_20 (a c0 c1 c2 c3 c4 c5 c6 c7 c8 c9 c10 c11 c12 c13 c14 c15 c16 c17 c18 c19 : Nat) : (a < a + 1 + c0 + c1 + c2 + c3 + c4 + c5 + c6 + c7 + c8 + c9 + c10 + c11 + c12 + c13 + c14 + c15 + c16 + c17 + c18 + c19) = True := by simp; try omega
@[go_sem] theorem lt_base_20 (a b c0 c1 c2 c3 c4 c5 c6 c7 c8 c9 c10 c11 c12 c13 c14 c15 c16 c17 c18 c19 : Nat) (h : a < b) : a < b + c0 + c1 + c2 + c3 + c4 + c5 + c6 + c7 + c8 + c9 + c10 + c11 + c12 + c13 + c14 + c15 + c16 + c17 + c18 + c19 := by omega

/-- Whatever leaves all old blocks alone is such a world. -/
theorem RowKit.Below.toExt {w w' : World} (h : Below w.heap.size w w') : ∃ X d, w' = w.ext X d := by
  refine ⟨w'.heap.extract w.heap.size w'.heap.size, w'.drawn, ?_⟩
  obtain ⟨h1, h2, h3, h4, h5⟩ := h
  cases w' with
  | mk heap tape drawn os output =>
    simp only at h1 h2 h3 h4 h5
    simp only [World.ext, h1, h2, h3]
    congr 1
    apply Array.ext_getElem?
    intro k
    by_cases hk : k < w.heap.size
    · rw [Array.getElem?_append_left hk]; exact h5 k hk
    · rw [Array.getElem?_append_right (by omega), Array.getElem?_extract]
      by_cases hk2 : k < heap.size
      · rw [if_pos (by omega)]; congr 1; omega
      · rw [if_neg (by omega), Array.getElem?_eq_none (by omega)]

/-- An extension. -/
def Ext (w w' : World) : Prop := ∃ X d, w' = w.ext X d
theorem Ext.refl (w : World) : Ext w w := ⟨#[], w.drawn, World.self_as_ext w⟩
theorem Ext.trans {a b c : World} (h : Ext a b) (k : Ext b c) : Ext a c := by
  obtain ⟨X, d, rfl⟩ := h; obtain ⟨Y, e, rfl⟩ := k
  exact ⟨X ++ Y, e, by simp⟩
theorem Ext.alloc {a b : World} (h : Ext a b) (o : Obj) : Ext a (b.alloc o) := by
  obtain ⟨X, d, rfl⟩ := h; exact ⟨_, _, World.alloc_ext _ _ _ o⟩
theorem Ext.drew {a b : World} (h : Ext a b) : Ext a b.drew := by
  obtain ⟨X, d, rfl⟩ := h; exact ⟨X, d + 1, rfl⟩
theorem Ext.drewN {a b : World} (h : Ext a b) (n : Nat) : Ext a (b.drewN n) := by
  obtain ⟨X, d, rfl⟩ := h; exact ⟨X, d + n, rfl⟩
theorem Ext.ext {a b : World} (h : Ext a b) (X : Array Obj) (d : Nat) : Ext a (b.ext X d) := h.trans ⟨X, d, rfl⟩
theorem Ext.below {a b : World} (h : Ext a b) : Below a.heap.size a b := by
  obtain ⟨X, d, rfl⟩ := h; exact World.below_ext a X d
theorem Ext.of_below {a b : World} (h : Below a.heap.size a b) : Ext a b := h.toExt
theorem Ext.setCell {a b : World} (h : Ext a b) {p : Addr} (hp : a.heap.size ≤ p.block) (v : Value) : Ext a (b.setCell p v) :=
  Ext.of_below (h.below.setCell hp v)

/-! ### A region that draws its order, whose operations and calls leave old memory alone; some of them ('loud') make memory or write to new memory. -/

section
variable {P : Program} {ops : Array Oper} {md : Region.Mode} {Q : Exit → Act → World → Prop}

/-- In every extension of W the operation yields v, in a world that extends the one that it got. -/
def Oper.quietUponX (P : Program) (w : World) (v : Value) : Result Next → Prop
  | .ok (.value u) w' => w' = w ∧ u = v
  | .ok .skip w' => w' = w ∧ v = undef
  | .ok (.enter f args) w' => w' = w ∧ Calls P f args w (fun e w'' => e = .returned v ∧ Ext w w'')
  | _ => False
def Oper.quietX (P : Program) (o : Oper) (a : Act) (W : World) (next : Act → Prop) : Prop :=
  ∃ v, (∀ X d, Oper.quietUponX P (W.ext X d) v ((execOp a.eval o).run P (W.ext X d))) ∧ next (a.put o.dst v)

/-- What may be asked of the ways on which an operation does not end normally: none but the want of room. -/
def onlyOut (Q : Exit → Act → World → Prop) : Exit → Act → World → Prop := fun e _ _ => e = .outgrown ∧ LetsOut Q
theorem letsOut_onlyOut (h : LetsOut (onlyOut Q)) : LetsOut Q := let ⟨_, _, _, h⟩ := h; h
theorem onlyOut_put (e : Exit) (a : Act) (d : Option Tmp) (v : Value) (w : World) (h : onlyOut Q e (a.put d v) w) : onlyOut Q e a w := h
theorem Oper.wp_out {o : Oper} {a : Act} {w : World} {K K' : Act → World → Prop} {Q Q' : Exit → Act → World → Prop} (hk : ∀ a w, K a w → K' a w)
    (hp : ∀ ch a w, Q (.panic ch) a w → Q' (.panic ch) a w) (hl : LetsOut Q → LetsOut Q') (h : o.wp P a w K Q) : o.wp P a w K' Q' := by
  unfold Oper.wp at *
  generalize (execOp a.eval o).run P w = r at *
  cases r with
  | ok n w' =>
    cases n <;> simp only [Oper.upon] at h ⊢ <;>
      first
        | exact hk _ _ h
        | exact Calls.mono h (fun e w'' he => by
            cases e with
            | returned u => exact hk _ _ he
            | panicked chain => exact hp _ _ _ he
            | outgrown => exact hl he)
        | exact Rows.mono h (fun u w'' he => hk _ _ he)
  | halt x w' => cases x <;> simp only [Oper.upon] at h ⊢ <;> first | exact h | exact hp _ _ _ h
theorem wpOp_out {i : Nat} {K : Act → World → Prop} {a : Act} {w : World} (hh : wpOp P ops (onlyOut Q) i K a w) : wpOp P ops Q i K a w := by
  unfold wpOp at *
  split
  · simpa [*] using hh
  · rename_i o ho
    simp only [ho] at hh
    split
    · rename_i hw
      simp only [hw, if_true] at hh
      refine hh.imp (fun h => ?_) (fun h => ⟨h.1, letsOut_onlyOut h.2⟩)
      unfold Oper.wp at *
      generalize (execOp a.eval o).run P w = r at *
      cases r with
      | ok n w' =>
        cases n <;> simp only [Oper.upon] at h ⊢ <;>
          first
            | exact h
            | exact Calls.mono h (fun e w'' he => by
                cases e with
                | returned u => exact he
                | panicked chain => exact absurd he.1 (by simp)
                | outgrown => exact letsOut_onlyOut he)
      | halt x w' => cases x <;> simp only [Oper.upon] at h ⊢ <;> first | exact h | exact absurd h.1 (by simp)
    · rename_i hw; simp only [hw] at hh; exact hh

/-- Is a quiet operation still to come? -/
def hasQ : List (Nat × Bool) → Bool
  | [] => false
  | (_, b) :: r => !b || hasQ r
/-- Operation j waits, directly or not, for operation i. -/
def waitsB (md : Region.Mode) (ops : Array Oper) : Nat → Nat → Nat → Bool
  | 0, _, _ => false
  | n + 1, j, i => match ops[j]? with
    | none => false
    | some o => o.after.any fun e => Region.binds md e && (e.on == i || waitsB md ops n e.on i)
/-- What has been listed has all that it waits for listed. -/
def Closed (md : Region.Mode) (ops : Array Oper) (listed : Array Bool) : Prop := ∀ j o, ops[j]? = some o → listed.getD j false = true → ∀ e ∈ o.after, Region.binds md e = true → listed.getD e.on false = true
theorem closed_waits {listed : Array Bool} (hc : Closed md ops listed) : ∀ (n j i : Nat) (o : Oper), ops[j]? = some o → (∀ e ∈ o.after, Region.binds md e = true → listed.getD e.on false = true) → waitsB md ops n j i = true → listed.getD i false = true
  | 0, _, _, _, _, _, h => by cases h
  | n + 1, j, i, o, ho, hall, h => by
    simp only [waitsB, ho] at h
    obtain ⟨e, he, hb⟩ := Array.any_eq_true'.1 h
    simp only [Bool.and_eq_true, Bool.or_eq_true, beq_iff_eq] at hb
    have hl := hall e he hb.1
    rcases hb.2 with rfl | hw
    · exact hl
    · cases hk : ops[e.on]? with
      | none => cases n <;> simp [waitsB, hk] at hw
      | some o' => exact closed_waits hc n e.on i o' hk (hc e.on o' hk hl) hw
theorem closed_set {listed : Array Bool} {i : Nat} (hc : Closed md ops listed) (hi : i ∈ Region.ready md ops listed) : Closed md ops (listed.setIfInBounds i true) := by
  intro j o hj hl e he hb
  obtain ⟨_, oi, hoi, hall⟩ := mem_ready.1 hi
  by_cases hij : i = j
  · subst hij
    obtain rfl : o = oi := Option.some.inj (hj.symm.trans hoi)
    exact getD_set_true (hall e he hb)
  · rw [getD_set_ne false hij] at hl
    exact getD_set_true (hc j o hj hl e he hb)
theorem closed_start (n : Nat) : Closed md ops (Array.replicate n false) := by
  intro j o _ hl
  rcases Nat.lt_or_ge j n with h | h
  · simp [h] at hl
  · simp [h] at hl
/-- The walk in a given order: each entry is an operation's index, and whether it is loud. -/
def wpMix (P : Program) (ops : Array Oper) (tl : List Nat) (W : World) (Q : Exit → Act → World → Prop) : List (Nat × Bool) → Act → World → Prop
  | [], a, w => ∀ X d, Q .normal a (w.ext X d)
  | (i, true) :: rest, a, w => match ops[i]? with
    | none => False
    | some o => ∀ X d, wpList P ops (Exit.then (fun a' w' => (tl.contains i = false → Ext W w') ∧ wpMix P ops tl W Q rest a' w') (onlyOut Q)) [o] a (w.ext X d)
  | (i, false) :: rest, a, w => match ops[i]? with
    | none => False
    | some o => if Region.wanted o (yielded ops a.tmps) then o.quietX P a W (fun a' => wpMix P ops tl W Q rest a' w) else wpMix P ops tl W Q rest (a.put o.dst undef) w

/-- 'wpAny', asked of every extension, and each operation must leave an extension of W. -/
def wpAnyX (P : Program) (md : Region.Mode) (ops : Array Oper) (tl : List Nat) (W : World) (Q : Exit → Act → World → Prop) : Nat → Array Bool → Act → World → Prop
  | 0, listed, a, w => Region.ready md ops listed = [] ∧ ∀ X d, Q .normal a (w.ext X d)
  | fuel + 1, listed, a, w =>
    (Region.ready md ops listed = [] → ∀ X d, Q .normal a (w.ext X d)) ∧
    ∀ i ∈ Region.ready md ops listed, ∀ X d, wpOp P ops (onlyOut Q) i (fun a' w' => (tl.contains i = false → Ext W w') ∧ wpAnyX P md ops tl W Q fuel (listed.setIfInBounds i true) a' w') a (w.ext X d)

theorem wpAny_of_X {W : World} {tl : List Nat} : ∀ (fuel : Nat) (listed : Array Bool) (a : Act) (w : World), wpAnyX P md ops tl W Q fuel listed a w → wpAny P md ops Q fuel listed a w
  | 0, _, a, w, h => ⟨h.1, by have := h.2 #[] w.drawn; rwa [← World.self_as_ext] at this⟩
  | fuel + 1, _, a, w, h => ⟨fun h0 => by have := h.1 h0 #[] w.drawn; rwa [← World.self_as_ext] at this, fun i hi => by
      have := h.2 i hi #[] w.drawn
      rw [← World.self_as_ext] at this
      exact wpOp_out (wpOp_mono (fun a' w' h' => wpAny_of_X fuel _ a' w' h'.2) this)⟩

theorem wpAnyX_ext {W : World} {tl : List Nat} : ∀ (fuel : Nat) (listed : Array Bool) (a : Act) (w : World) (X : Array Obj) (d : Nat), wpAnyX P md ops tl W Q fuel listed a w → wpAnyX P md ops tl W Q fuel listed a (w.ext X d)
  | 0, _, a, w, X, d, h => ⟨h.1, fun Y e => by rw [World.ext_ext]; exact h.2 _ _⟩
  | fuel + 1, _, a, w, X, d, h => ⟨fun h0 Y e => by rw [World.ext_ext]; exact h.1 h0 _ _, fun i hi Y e => by rw [World.ext_ext]; exact h.2 i hi _ _⟩

/-- In every extension of W operation 'o' leaves 'v' in its temporary. -/
def YieldsX (P : Program) (ops : Array Oper) (W : World) (o : Oper) (v : Value) (a : Act) : Prop :=
  (Region.wanted o (yielded ops a.tmps) = true ∧ ∀ X d, Oper.quietUponX P (W.ext X d) v ((execOp a.eval o).run P (W.ext X d))) ∨
  (Region.wanted o (yielded ops a.tmps) = false ∧ v = undef)

theorem YieldsX.of_same {W : World} {o : Oper} {v : Value} {a a' : Act} (hy : YieldsX P ops W o v a) (he : execOp a'.eval o = execOp a.eval o)
    (hw : Region.wanted o (yielded ops a'.tmps) = Region.wanted o (yielded ops a.tmps)) : YieldsX P ops W o v a' := by
  unfold YieldsX at *
  rw [he, hw]
  exact hy

/-- The operation, met in a world that extends W. -/
theorem YieldsX.wpOp {W w : World} {i : Nat} {o : Oper} {v : Value} {a : Act} (hi : ops[i]? = some o) (hy : YieldsX P ops W o v a) (hw : Ext W w)
    {K : Act → World → Prop} (h : ∀ w', Ext w w' → K (a.put o.dst v) w') : wpOp P ops Q i K a w := by
  unfold Go.wpOp
  simp only [hi]
  rcases hy with ⟨hw1, hv⟩ | ⟨hw1, rfl⟩
  · simp only [hw1, if_true]
    left
    unfold Oper.wp
    obtain ⟨X, d, rfl⟩ := hw
    have h3 := hv X d
    generalize (execOp a.eval o).run P (W.ext X d) = r at *
    cases r with
    | ok n w' =>
      cases n <;> simp only [Oper.quietUponX] at h3 <;> simp only [Oper.upon]
      case value u => obtain ⟨e1, e2⟩ := h3; rw [e1, e2]; exact h _ (Ext.refl _)
      case skip => obtain ⟨e1, e2⟩ := h3; rw [e1, ← e2]; exact h _ (Ext.refl _)
      case enter f args =>
        obtain ⟨e1, hc⟩ := h3
        rw [e1]
        exact hc.mono fun e w'' ⟨he, hw''⟩ => by subst he; exact h _ hw''
    | halt x w' => simp only [Oper.quietUponX] at h3
  · simp only [hw1, Bool.false_eq_true, if_false]; exact h _ (Ext.refl _)

/-- One operation 'oj', apart from 'oi': whether 'oi''s value is already in its temporary makes no difference to it. -/
theorem wpOp_putX {W : World} {j : Nat} {oi oj : Oper} {v : Value} (hj : ops[j]? = some oj) (hap : oi.apart ops oj = true)
    (hsi : ∀ cs b, oi.op ≠ .select cs b) (hsj : ∀ cs b, oj.op ≠ .select cs b) {K : Act → World → Prop} {a : Act} {w : World}
    (hy : YieldsX P ops W oi v a) (h : wpOp P ops (onlyOut Q) j K (a.put oi.dst v) w) :
    wpOp P ops (onlyOut Q) j (fun a' w' => YieldsX P ops W oi v a' ∧ K (a'.put oi.dst v) w') a w := by
  obtain ⟨h1, h2, h3⟩ := Oper.apart_spec hap
  have keep : ∀ (a : Act), YieldsX P ops W oi v a → ∀ u, YieldsX P ops W oi v (a.put oj.dst u) := fun a hy u =>
    hy.of_same (execOp_put oi hsi a oj.dst u h3) (wanted_put oi a oj.dst u h3)
  have keepD : ∀ (a : Act) (ds : List Deferred), YieldsX P ops W oi v a → YieldsX P ops W oi v { a with defers := ds } := fun a ds hy => hy
  unfold Go.wpOp at *
  simp only [hj] at *
  rw [wanted_put oj a oi.dst v h1] at h
  split
  · rename_i hw
    simp only [hw, if_true] at h
    rcases h with h | ⟨h, hl⟩
    · left
      unfold Oper.wp at *
      rw [execOp_put oj hsj a oi.dst v h1] at h
      generalize (execOp a.eval oj).run P w = r at *
      cases r with
      | ok n w' =>
        cases n <;> simp only [Oper.upon] at h ⊢
        case value u => exact ⟨keep a hy u, by rw [← Act.put_comm a v u h2]; exact h⟩
        case skip => exact ⟨keep a hy _, by rw [← Act.put_comm a v undef h2]; exact h⟩
        case defer dd =>
          refine ⟨keep _ (keepD a _ hy) _, ?_⟩
          rw [← Act.put_comm _ v undef h2]
          have := h
          rw [Act.put_defers] at this
          exact this
        case enter f args =>
          exact Calls.mono h (fun e w'' he => by
            cases e with
            | returned u => exact ⟨keep a hy u, by rw [← Act.put_comm a v u h2]; exact he⟩
            | panicked chain => exact he
            | outgrown => exact he)
        case row row args =>
          exact Rows.mono h (fun u w'' he => ⟨keep a hy u, by rw [← Act.put_comm a v u h2]; exact he⟩)
      | halt x w' => cases x <;> simp only [Oper.upon] at h ⊢ <;> exact h
    · right
      refine ⟨?_, hl⟩
      unfold Oper.asks at *
      rw [execOp_put oj hsj a oi.dst v h1] at h
      exact h
  · rename_i hw
    simp only [hw] at h
    exact ⟨keep a hy _, by rw [← Act.put_comm a v undef h2]; exact h⟩
/-- A quiet operation that may come up now may be taken first. -/
theorem wpAnyX_first {W : World} {tl : List Nat} {i fu : Nat} (htl : ∀ j ∈ tl, waitsB md ops fu j i = true) {oi : Oper} {v : Value} (hi : ops[i]? = some oi) (hsel : ∀ (j : Nat) (o : Oper) cs b, ops[j]? = some o → o.op ≠ .select cs b) :
    ∀ (fuel : Nat) (listed : Array Bool) (a : Act) (w : World), Ext W w → Closed md ops listed →
      (∀ j oj, ops[j]? = some oj → j ≠ i → listed.getD j true = false → (∀ e ∈ oj.after, Region.binds md e = true → e.on ≠ i) → oi.apart ops oj = true) →
      i ∈ Region.ready md ops listed → YieldsX P ops W oi v a →
      wpAnyX P md ops tl W Q fuel (listed.setIfInBounds i true) (a.put oi.dst v) w → wpAnyX P md ops tl W Q (fuel + 1) listed a w := by
  intro fuel
  induction fuel with
  | zero =>
    intro listed a w hW hcl _ hr hy H
    refine ⟨fun h => (by rw [h] at hr; cases hr), fun j hj X d => ?_⟩
    by_cases hji : j = i
    · subst hji
      exact hy.wpOp hi (hW.ext X d) fun w' hw' => ⟨fun _ => (hW.ext X d).trans hw', by
        obtain ⟨Y, e, rfl⟩ := hw'
        rw [World.ext_ext]
        exact wpAnyX_ext _ _ _ _ _ _ H⟩
    · have := ready_mono hj hji
      rw [H.1] at this
      cases this
  | succ fuel ih =>
    intro listed a w hW hcl hfree hr hy H
    refine ⟨fun h => (by rw [h] at hr; cases hr), fun j hj X d => ?_⟩
    by_cases hji : j = i
    · subst hji
      exact hy.wpOp hi (hW.ext X d) fun w' hw' => ⟨fun _ => (hW.ext X d).trans hw', by
        obtain ⟨Y, e, rfl⟩ := hw'
        rw [World.ext_ext]
        exact wpAnyX_ext _ _ _ _ _ _ H⟩
    · have h1 := H.2 j (ready_mono hj hji) X d
      obtain ⟨hjun, oj, hoj, hall⟩ := mem_ready.1 hj
      have hnot : ∀ e ∈ oj.after, Region.binds md e = true → e.on ≠ i := fun e he hb heq => by
        have h1 := hall e he hb
        have h0 := (mem_ready.1 hr).1
        rw [heq] at h1
        rcases Nat.lt_or_ge i listed.size with h' | h'
        · simp [h'] at h0 h1; rw [h0] at h1; cases h1
        · simp [Array.getElem?_eq_none h'] at h1
      have h2 := wpOp_putX hoj (hfree j oj hoj hji hjun hnot) (fun cs b => hsel i oi cs b hi) (fun cs b => hsel j oj cs b hoj) hy h1
      have hfree' : ∀ k ok, ops[k]? = some ok → k ≠ i → (listed.setIfInBounds j true).getD k true = false →
          (∀ e ∈ ok.after, Region.binds md e = true → e.on ≠ i) → oi.apart ops ok = true := fun k ok hk hki hun hno => by
        refine hfree k ok hk hki ?_ hno
        by_cases hjk : j = k
        · subst hjk; exact hjun
        · rw [getD_set_ne true hjk] at hun; exact hun
      have hjt : tl.contains j = false := by
        cases hc : tl.contains j with
        | false => rfl
        | true =>
          have hw := htl j (by simpa using hc)
          have := closed_waits hcl fu j i oj hoj hall hw
          have h0 := (mem_ready.1 hr).1
          rcases Nat.lt_or_ge i listed.size with h' | h'
          · simp [h'] at h0 this; rw [h0] at this; cases this
          · simp [Array.getElem?_eq_none h'] at h0
      refine wpOp_mono (fun a' w' h3 => ⟨fun _ => h3.2.1 hjt, ih (listed.setIfInBounds j true) a' w' (h3.2.1 hjt) (closed_set hcl hj) hfree' (ready_mono hr (Ne.symm hji)) h3.1 ?_⟩) h2
      rw [Array.setIfInBounds_comm _ _ hji]
      exact h3.2.2

/-- The order is one of those that the edges allow: a quiet operation may come now, and whatever has not come yet waits for it or is apart; a loud one is the only one that may come now. -/
def mixFrom (md : Region.Mode) (ops : Array Oper) (tl : List Nat) : List (Nat × Bool) → Array Bool → Bool
  | [], listed => (Region.ready md ops listed).isEmpty
  | (i, true) :: rest, listed => Region.ready md ops listed == [i] && (!(tl.contains i) || !(hasQ rest)) && mixFrom md ops tl rest (listed.setIfInBounds i true)
  | (i, false) :: rest, listed => (Region.ready md ops listed).contains i && Region.free md ops listed i && mixFrom md ops tl rest (listed.setIfInBounds i true)
def mixB (md : Region.Mode) (ops : Array Oper) (tl : List Nat) (ord : List (Nat × Bool)) : Bool :=
  Region.noSelect ops && mixFrom md ops tl ord (Array.replicate ops.size false) && decide (ord.length = ops.size) &&
    ord.all fun p => p.2 || tl.all fun j => waitsB md ops ops.size j p.1

theorem wpAnyX_mix {W : World} {tl : List Nat} {fu : Nat} (hs : Region.noSelect ops = true) : ∀ (ord : List (Nat × Bool)) (listed : Array Bool) (a : Act) (w : World), (hasQ ord = true → Ext W w) → Closed md ops listed → (∀ i, (i, false) ∈ ord → ∀ j ∈ tl, waitsB md ops fu j i = true) →
    mixFrom md ops tl ord listed = true → wpMix P ops tl W Q ord a w → wpAnyX P md ops tl W Q ord.length listed a w
  | [], _, _, _, _, _, _, hB, h => ⟨by simpa [mixFrom] using hB, h⟩
  | (i, true) :: rest, listed, a, w, hW, hcl, hT, hB, h => by
    simp only [mixFrom, Bool.and_eq_true, beq_iff_eq] at hB
    obtain ⟨⟨hr, hti⟩, hB'⟩ := hB
    refine ⟨fun h0 => (by rw [h0] at hr; cases hr), fun j hj X d => ?_⟩
    rw [hr] at hj
    obtain rfl : j = i := by simpa using hj
    have hm : j ∈ Region.ready md ops listed := by rw [hr]; simp
    obtain ⟨_, o, ho, _⟩ := mem_ready.1 hm
    simp only [wpMix, ho] at h
    have h' := h X d
    have hT' : ∀ k, (k, false) ∈ rest → ∀ j ∈ tl, waitsB md ops fu j k = true := fun k hk => hT k (List.mem_cons_of_mem _ hk)
    have hcl' := closed_set hcl hm
    have hq : ∀ w', (tl.contains j = false → Ext W w') → (hasQ rest = true → Ext W w') := fun w' hw' hc => hw' (by
      rw [hc] at hti
      simpa using hti)
    unfold wpOp
    simp only [ho]
    unfold wpList at h'
    split at h'
    · rename_i hw
      rw [if_pos hw]
      refine h'.imp (fun h' => ?_) (fun h' => ⟨h'.1, h'.2⟩)
      exact Oper.wp_out (fun a' w' hk => ⟨hk.1, wpAnyX_mix hs rest _ a' w' (hq _ hk.1) hcl' hT' hB' hk.2⟩) (fun ch a w h => h) (fun h => h) h'
    · rename_i hw
      rw [if_neg hw]
      exact ⟨h'.1, wpAnyX_mix hs rest _ _ _ (hq _ h'.1) hcl' hT' hB' h'.2⟩
  | (i, false) :: rest, listed, a, w, hW, hcl, hT, hB, h => by
    simp only [mixFrom, Bool.and_eq_true] at hB
    obtain ⟨⟨hr, hf⟩, hB'⟩ := hB
    have hr' : i ∈ Region.ready md ops listed := by simpa using hr
    obtain ⟨_, o, ho, _⟩ := mem_ready.1 hr'
    simp only [wpMix, ho] at h
    have hW' : Ext W w := hW (by simp [hasQ])
    have hT' : ∀ k, (k, false) ∈ rest → ∀ j ∈ tl, waitsB md ops fu j k = true := fun k hk => hT k (List.mem_cons_of_mem _ hk)
    have hcl' := closed_set hcl hr'
    have hTi := hT i (by simp)
    split at h
    · rename_i hw
      obtain ⟨v, hv, hn⟩ := h
      exact wpAnyX_first hTi ho (Region.noSelect_spec hs) rest.length listed a w hW' hcl (Region.free_spec ho hf) hr' (.inl ⟨hw, hv⟩)
        (wpAnyX_mix hs rest _ _ w (fun _ => hW') hcl' hT' hB' hn)
    · rename_i hw
      exact wpAnyX_first hTi ho (Region.noSelect_spec hs) rest.length listed a w hW' hcl (Region.free_spec ho hf) hr' (.inr ⟨by simpa using hw, rfl⟩)
        (wpAnyX_mix hs rest _ _ w (fun _ => hW') hcl' hT' hB' h)

/-- **A REGION THAT DRAWS ITS ORDER, WALKED IN ONE ORDER.** -/
theorem wp_region_mix {id : Nat} {l : List Oper} {a : Act} {w : World} (tl : List Nat) (ord : List (Nat × Bool)) (hm : P.follows .mixedOrders = true) (hB : mixB .any l.toArray tl ord = true)
    (h : wpMix P l.toArray tl w Q ord a w) : (Code.region id l.toArray true).wp P Q a w := by
  simp only [mixB, Bool.and_eq_true, decide_eq_true_eq] at hB
  obtain ⟨⟨⟨hs, hf⟩, hlen⟩, htl⟩ := hB
  refine wp_region_any hm (wpAny_of_X (W := w) (tl := tl) _ _ _ _ ?_)
  have := wpAnyX_mix (md := .any) (tl := tl) (fu := l.toArray.size) hs ord (Array.replicate l.toArray.size false) a w (fun _ => Ext.refl w) (closed_start _) (fun i hi j hj => by
    have := List.all_eq_true.1 htl _ hi
    simp only [Bool.false_or] at this
    exact List.all_eq_true.1 this j hj) hf h
  have h2 := wpAnyX_ext _ _ _ _ #[] (w.drawn + 1) this
  rw [← World.drew_as_ext, hlen] at h2
  exact h2

theorem wpMix_nil {tl : List Nat} {W : World} {a : Act} {w : World} (h : ∀ X d, Q .normal a (w.ext X d)) : wpMix P ops tl W Q [] a w := h
/-- A quiet operation. -/
theorem wpMix_quiet {tl : List Nat} {l : List Oper} {W : World} {i : Nat} {rest : List (Nat × Bool)} {a : Act} {w : World} (o : Oper) (ho : l[i]? = some o)
    (h : ∀ K : Act → Prop, (∀ a, wpMix P l.toArray tl W Q rest a w → K a) → if Region.wanted o (yielded l.toArray a.tmps) then o.quietX P a W K else K (a.put o.dst undef)) :
    wpMix P l.toArray tl W Q ((i, false) :: rest) a w := by
  have ho' : l.toArray[i]? = some o := by simpa using ho
  simp only [wpMix, ho']
  exact h _ (fun _ h => h)
theorem wpMix_plain {tl : List Nat} {l : List Oper} {W : World} {i : Nat} {rest : List (Nat × Bool)} {a : Act} {w : World} (o : Oper) (ho : l[i]? = some o) (hg : o.guard = none)
    (h : ∀ K : Act → Prop, (∀ a, wpMix P l.toArray tl W Q rest a w → K a) → o.quietX P a W K) :
    wpMix P l.toArray tl W Q ((i, false) :: rest) a w :=
  wpMix_quiet o ho fun K hK => by simp only [Region.wanted, hg, if_true]; exact h K hK
/-- A loud one: what follows is asked of whatever it leaves. -/
theorem wpMix_loud {tl : List Nat} {l : List Oper} {W : World} {i : Nat} {rest : List (Nat × Bool)} {a : Act} {w : World} (o : Oper) (ho : l[i]? = some o)
    (h : ∀ K : Act → World → Prop, (∀ a' w', (tl.contains i = false → Ext W w') → wpMix P l.toArray tl W Q rest a' w' → K a' w') → ∀ X d, wpList P l.toArray (Exit.then K (onlyOut Q)) [o] a (w.ext X d)) :
    wpMix P l.toArray tl W Q ((i, true) :: rest) a w := by
  have ho' : l.toArray[i]? = some o := by simpa using ho
  simp only [wpMix, ho']
  exact h _ (fun _ _ h1 h2 => ⟨h1, h2⟩)
/-- A callee that leaves old memory alone, met in a region. -/
theorem Calls.quietX {f : FuncId} {args : Array Value} {w : World} {v : Value} (h : Calls P f args w fun e w' => e = .returned v ∧ Below w.heap.size w w') :
    Calls P f args w fun e w'' => e = .returned v ∧ Ext w w'' := h.mono fun _ _ ⟨he, hb⟩ => ⟨he, Ext.of_below hb⟩
theorem Calls.quietX_same {f : FuncId} {args : Array Value} {w : World} {v : Value} (h : Calls P f args w fun e w' => e = .returned v ∧ w = w') :
    Calls P f args w fun e w'' => e = .returned v ∧ Ext w w'' := h.mono fun _ _ ⟨he, hb⟩ => ⟨he, hb ▸ Ext.refl _⟩
attribute [go_sem] Oper.quietX Oper.quietUponX
end
end Go
