/-
  What the statements of this seat hang on, part 7: Lw ShDl LDl ShIn LIn ShRp LRp K1 K2 K3.
-/
import Derived.Test.YtebcipkdnlfboaaGreatZ6
import Derived.Shelf.Slices.Delete
import Derived.Shelf.Spec.SlicesInsertGrow
import Derived.Test.YtebcipkdnlfboaaGreatProg
import Derived.Ground.Names2Prog
import Derived.Lib.Agree
import Derived.KernelRfl
import Derived.Shelf.Strings.Repeat
import Derived.Ground.NamesProg
namespace Go
namespace Rt
open Go.RowKit Go.Shelf Go.Sort Go.Proofs Go.Lib
section
variable {P : Program} {E : TE} {z : Fz} {g : Ga} {w w' w0 : World} {Bs : List Nat} {F0 : Nat → Prop}
theorem splice_nil (cs : List Value) (o : Nat) : splice cs o [] = cs := by
  simp [splice]
theorem splice_cons (cs : List Value) (o : Nat) (v : Value) (vs : List Value) (h : o < cs.length) : splice (cs.set o v) (o + 1) vs = splice cs o (v :: vs) := by
  unfold splice
  rw [List.take_set, List.take_succ_eq_append_getElem h, List.drop_set_of_lt (by omega), List.set_append_right _ _ (by rw [List.length_take]; omega), List.length_take, Nat.min_eq_left (by omega)]
  simp
  rw [show o + 1 + vs.length = o + (vs.length + 1) by omega]
theorem setCell_heap {b o : Nat} {e : TypeId} {cs : List Value} {v : Value} (h : w.heap[b]? = some (.cells cs.toArray e (0, 0))) : (w.setCell ⟨b, o, none⟩ v).heap[b]? = some (.cells (cs.set o v).toArray e (0, 0)) := by
  unfold World.setCell
  simp only [Array.getElem?_modify, if_true, h, Option.map_some, Option.isSome_none, Bool.false_eq_true, if_false]
  simp
theorem setCell_else {b o k : Nat} {v : Value} (h : k ≠ b) : (w.setCell ⟨b, o, none⟩ v).heap[k]? = w.heap[k]? := by
  unfold World.setCell
  simp only [Array.getElem?_modify]
  rw [if_neg fun e => h e.symm]
theorem setCell_grow {b o : Nat} {v : Value} : Grow w (w.setCell ⟨b, o, none⟩ v) := ⟨rfl, rfl, rfl, by simp [World.setCell]⟩
theorem setCells_row {b : Nat} {e : TypeId} : ∀ (vs : List Value) (o : Nat) (cs : List Value) (w : World), w.heap[b]? = some (.cells cs.toArray e (0, 0)) → o + vs.length ≤ cs.length → (w.setCells b o vs).heap[b]? = some (.cells (splice cs o vs).toArray e (0, 0)) ∧ Grow w (w.setCells b o vs) ∧ ∀ k, k ≠ b → (w.setCells b o vs).heap[k]? = w.heap[k]?
  | [], o, cs, w, h, hl => ⟨by rw [splice_nil]; exact h, Grow.refl w, fun _ _ => rfl⟩
  | v :: vs, o, cs, w, h, hl => by
    simp only [List.length_cons] at hl
    obtain ⟨h1, h2, h3⟩ := setCells_row vs (o + 1) (cs.set o v) (w.setCell ⟨b, o, none⟩ v) (setCell_heap h) (by simp; omega)
    rw [splice_cons _ _ _ _ (by omega)] at h1
    exact ⟨h1, setCell_grow.trans h2, fun k hk => (h3 k hk).trans (setCell_else hk)⟩
def IV (xs : List Int) : List Value := xs.map (Value.int .i64)
theorem IV_len (xs : List Int) : (IV xs).length = xs.length := by simp [IV]
theorem IV_one {xs : List Int} : ∀ v ∈ IV xs, v.oneCell' = true := fun v hv => by
  obtain ⟨x, _, rfl⟩ := List.mem_map.1 hv
  rfl
def RowI (w : World) (e : TypeId) (xs : List Int) (A : Option Addr) (cap : Nat) : Prop :=
  (A = none ∧ cap = 0 ∧ xs = []) ∨ ∃ b cs, A = some ⟨b, 0, none⟩ ∧ w.heap[b]? = some (.cells (cs : List Value).toArray e (0, 0)) ∧ xs.length ≤ cap ∧ cap ≤ maxLen ∧ cs.length = cap ∧ cs.take xs.length = IV xs
theorem rows_IV {xs : List Int} {rows : List (List Value)} (h : Rows E z (.int .i64) xs rows) (hl : rows.length = xs.length) : rows.flatten = IV xs := by
  have : rows = xs.map fun x => [Value.int .i64 x] := by
    apply List.ext_getElem?
    intro i
    rw [List.getElem?_map]
    rcases Nat.lt_or_ge i xs.length with hi | hi
    · have hx := List.getElem?_eq_getElem hi
      have hr := List.getElem?_eq_getElem (show i < rows.length by omega)
      obtain ⟨vs, h1, h2⟩ := RD.int_inv (show RD E z [.int .i64] (xs[i], ()) rows[i] from h i _ _ hx hr)
      rw [hr, hx, h1, h2.nil_inv]
      rfl
    · rw [List.getElem?_eq_none (by omega), List.getElem?_eq_none hi]
      rfl
  rw [this]
  clear this h hl
  induction xs with
  | nil => rfl
  | cons x xs ih => simp only [List.map_cons, List.flatten_cons, ih]; rfl
theorem rowI_of {id : Nat} {e : TypeId} {xs : List Int} (h : ObjR P E z g w id (.row e (.int .i64) xs [])) : ∃ l, g id = some l ∧ l.n = xs.length ∧ RowI w e xs l.A l.cap := by
  obtain ⟨l, rows, h1, hn, hc, hown, hlen, hrl, hrows, _⟩ := h
  have hc1 : l.c = 1 := hc
  rw [hc1, rows_IV hrows (by omega)] at hown
  refine ⟨l, h1, hn, ?_⟩
  obtain ⟨_, h2⟩ := hown
  rcases h2 with ⟨h2, h3⟩ | ⟨b, cap, cur, hv, _, hh, hnc, hcm, hcs, htk⟩
  · injection h2 with e1 e2 e3
    exact .inl ⟨e1, e3, List.length_eq_zero_iff.1 (by omega)⟩
  · injection hv with e1 _ e3
    subst e3
    exact .inr ⟨b, cur.toList, e1, by simpa using hh, by omega, hcm, by simpa using hcs, by rw [Nat.mul_one, hn] at htk; exact htk⟩
theorem rowI_mk {id : Nat} {e : TypeId} {xs : List Int} {A : Option Addr} {cap : Nat} (h : RowI w e xs A cap) (hg : g id = some ⟨A, xs.length, cap, 1, 0, 0⟩) : ObjR P E z g w id (.row e (.int .i64) xs []) := by
  have hfl : (xs.map fun x => [Value.int .i64 x]).flatten = IV xs := by
    clear h hg
    induction xs with
    | nil => rfl
    | cons x xs ih => simp only [List.map_cons, List.flatten_cons, ih]; rfl
  refine ⟨_, xs.map fun x => [Value.int .i64 x], hg, rfl, rfl, ?_, by simp, fun r hr => ?_, fun i x r hx hr => ?_, fun p hp => nomatch hp⟩
  · rw [hfl]
    refine ⟨by simp [IV_len], ?_⟩
    rcases h with ⟨rfl, rfl, rfl⟩ | ⟨b, cs, rfl, hh, h1, h2, h3, h4⟩
    · exact .inl ⟨rfl, rfl⟩
    · exact .inr ⟨b, cap, cs.toArray, rfl, Nat.zero_le _, hh, h1, h2, by simpa using h3, by rw [Nat.mul_one]; exact h4⟩
  · obtain ⟨x, _, rfl⟩ := List.mem_map.1 hr
    rfl
  · rw [List.getElem?_map] at hr
    rw [hx] at hr
    obtain rfl := Option.some.inj hr
    exact RD.int .nil
theorem RowI.cell {e : TypeId} {xs : List Int} {b cap : Nat} (h : RowI w e xs (some ⟨b, 0, none⟩) cap) {j : Nat} {v : Value} (hj : (IV xs)[j]? = some v) : w.cell? ⟨b, 0 + j, none⟩ = some v := by
  rcases h with ⟨h, _⟩ | ⟨b', cs, h0, hh, h1, h2, h3, h4⟩
  · cases h
  · injection h0 with h0; injection h0 with h0; subst h0
    rw [Nat.zero_add, cell_of_row w b j _ e (0, 0) hh]
    rw [← h4, List.getElem?_take] at hj
    split at hj
    · simpa using hj
    · cases hj
theorem HR.rowI {e : TypeId} {xs zs : List Int} {i i' : Nat} {H H' : Nat → Option (Obj E)} {A A' : Option Addr} {cap' : Nat} {l : Loc} (h : HR P E Bs F0 w0 w z g H) (hi : H i = some (.row e (.int .i64) xs [])) (hl : g i = some l) (hA : l.A = A) (hn : g i' = none)
    (hb : Grow w w') (hk : ∀ k, k < w.heap.size → ¬ rowF A k → w'.heap[k]? = w.heap[k]?) (hr : RowI w' e zs A' cap') (hf : ∀ k, rowF A' k → rowF A k ∨ w.heap.size ≤ k)
    (hH : ∀ j o, H' j = some o → j = i' ∧ o = .row e (.int .i64) zs []) : HR P E Bs F0 w0 w' z (g.put i' ⟨A', zs.length, cap', 1, 0, 0⟩) H' := by
  refine h.turn (Ga.le_put hn) (i := i) (i' := i') (C := rowF A) (fun q ⟨a, ha, hq⟩ => ⟨_, hi, l, a, hl, hA.trans ha, hq⟩) hb hk (o' := .row e (.int .i64) zs []) (rowI_mk hr (Ga.put_self _ _ _)) (fun q hq => ?_) fun j p hj => .inl (hH j p hj)
  obtain ⟨l2, a2, h5, h6, rfl⟩ := hq
  rw [Ga.put_self] at h5
  obtain rfl := Option.some.inj h5
  exact hf _ ⟨a2, h6, rfl⟩
theorem zeroC_size (k : Nat) : (Builtin.zeroCells (Value.int .i64 0).cells k).size = k := by simp [Builtin.zeroCells, Value.cells]
theorem alloc_rowI {e : TypeId} {xs : List Int} {Z : Array Value} {G : Nat} (h1 : xs.length + Z.size = G) (h2 : G ≤ maxLen) : RowI (w.drew.alloc (.cells ((IV xs).toArray ++ Z) e)) e xs (some ⟨w.heap.size, 0, none⟩) G :=
  .inr ⟨w.heap.size, IV xs ++ Z.toList, rfl, by refine (MapKept.heap_alloc w.drew _).1.trans ?_; congr 3; apply Array.ext'; simp, by omega, h2, by simp [IV_len]; exact h1, by rw [List.take_append_of_le_length (by rw [IV_len]; exact Nat.le_refl _), List.take_of_length_le (by rw [IV_len]; exact Nat.le_refl _)]⟩
theorem alloc_grow (o : Go.Obj) : Grow w (w.drew.alloc o) := (show Grow w w.drew from ⟨rfl, rfl, rfl, Nat.le_refl _⟩).trans (Grow.of_below (Ext.one w.drew _).below)
theorem insert_run {ρ : Ren} (L : Lays2.n21 P ρ) {xs ys : List Int} {A : Option Addr} {cap vb vc : Nat} {i : Nat} (hx : RowI w (ρ.t 3) xs A cap) (hy : RowI w (ρ.t 3) ys (some ⟨vb, 0, none⟩) vc) (hm : 0 < ys.length) (hi : i ≤ xs.length) (hbig : (xs.length + ys.length) * 8 ≤ 140737488355328) (hap : ¬ rowF A vb) :
    Ret P (ρ.f 21) #[.slice A xs.length cap, .int .i64 (i : Int), .slice (some ⟨vb, 0, none⟩) ys.length vc] w fun v w' => ∃ A' cap', v = .slice A' (xs.take i ++ (ys ++ xs.drop i)).length cap' ∧ RowI w' (ρ.t 3) (xs.take i ++ (ys ++ xs.drop i)) A' cap' ∧ Grow w w' ∧ (∀ k, k < w.heap.size → ¬ rowF A k → w'.heap[k]? = w.heap[k]?) ∧ ∀ k, rowF A' k → rowF A k ∨ w.heap.size ≤ k := by
  have hlen : (xs.take i ++ (ys ++ xs.drop i)).length = xs.length + ys.length := by simp; omega
  have hyc := fun j v (h : (IV ys)[j]? = some v) => hy.cell h
  have hml : xs.length + ys.length ≤ maxLen := by unfold maxLen; omega
  rcases hx with ⟨rfl, rfl, rfl⟩ | ⟨b, cs, rfl, hh, h1, h2, h3, h4⟩
  · obtain rfl : i = 0 := by simpa using hi
    have := Any2.slices_Insert_int_end_grow L none 0 0 vb 0 ys.length vc [] (IV ys) w hm (Nat.le_refl _) (by omega) (by simpa using hbig) rfl (IV_len _) (fun _ => rfl) (fun _ h => nomatch h) hyc IV_one
    refine Calls.mono this fun e w' ⟨he, hw⟩ => ⟨_, he, some ⟨w.heap.size, 0, none⟩, grownCap w (0 + ys.length) 0 (ρ.t 3), by rw [hlen]; rfl, ?_, ?_, fun k hk _ => ?_, fun k ⟨a, ha, hk⟩ => ?_⟩
    · subst hw
      have := grownCap_ge w (0 + ys.length) 0 (ρ.t 3)
      rw [show ([] : List Int).take 0 ++ (ys ++ ([] : List Int).drop 0) = ys by simp]
      refine alloc_rowI (xs := ys) ?_ (grownCap_le_maxLen _ _ _ _ (show 0 + ys.length ≤ maxLen by rw [Nat.zero_add]; simpa using hml))
      rw [zeroC_size]
      revert this
      generalize grownCap w (0 + ys.length) 0 (ρ.t 3) = G
      omega
    · subst hw; exact alloc_grow _
    · subst hw
      exact (MapKept.heap_alloc w.drew _).2 k hk
    · obtain rfl := Option.some.inj ha; exact .inr (by subst hk; exact Nat.le_refl _)
  · have hbw : b < w.heap.size := by
      rcases Nat.lt_or_ge b w.heap.size with h' | h'
      · exact h'
      · rw [Array.getElem?_eq_none h'] at hh; cases hh
    have hxc : ∀ j v, (IV xs)[j]? = some v → w.cell? ⟨b, 0 + j, none⟩ = some v := fun j v h => RowI.cell (.inr ⟨b, cs, rfl, hh, h1, h2, h3, h4⟩) h
    have hvb : vb ≠ b := fun h => hap ⟨_, rfl, h⟩
    have hsome : ∀ j, j < cap → (w.cell? ⟨b, 0 + j, none⟩).isSome = true := fun j hj => by
      rw [Nat.zero_add, cell_of_row w b j _ _ (0, 0) hh]
      simp; omega
    have hfz : ∀ j, w.frozen? ⟨b, j, none⟩ = false := fun j => by unfold World.frozen?; simp only [hh]; simp
    have hkk : ∀ {w' : World}, (∀ k, k ≠ b → w'.heap[k]? = w.heap[k]?) → ∀ k, k < w.heap.size → ¬ rowF (some ⟨b, 0, none⟩) k → w'.heap[k]? = w.heap[k]? := fun h k _ hk => h k fun e => hk ⟨_, rfl, e⟩
    have hcap63 : cap ≤ 9223372036854775807 := by unfold maxLen at h2; omega
    have hcs : cs = IV xs ++ cs.drop xs.length := by rw [← h4, List.take_append_drop]
    rcases Nat.lt_or_ge i xs.length with hlt | hge
    · rcases Nat.lt_or_ge cap (xs.length + ys.length) with hroom | hroom
      · have := Any2.slices_Insert_int_grow L b 0 xs.length cap i vb 0 ys.length vc (IV xs) (IV ys) w hlt hm h1 hroom hbig (IV_len _) (IV_len _) hxc hyc IV_one IV_one
        obtain ⟨G, hG⟩ : ∃ G, G = grownCap w (xs.length + ys.length) cap (ρ.t 3) := ⟨_, rfl⟩
        have hGn : xs.length + ys.length ≤ G := by rw [hG]; exact grownCap_ge w _ _ _
        have hGm : G ≤ maxLen := by rw [hG]; exact grownCap_le_maxLen _ _ _ _ hml
        rw [← hG] at this
        obtain ⟨row, hrow⟩ : ∃ row : List Value, row.toArray = ((IV xs).take i).toArray ++ Builtin.zeroCells (Value.int .i64 0).cells (xs.length + ys.length - i) ++ Builtin.zeroCells (Value.int .i64 0).cells (G - (xs.length + ys.length)) := ⟨_, Array.toArray_toList⟩
        have hrl : row.length = G := by
          have := congrArg Array.size hrow
          simp [Builtin.zeroCells, Value.cells, IV_len] at this
          omega
        have hrt : row.take i = (IV xs).take i := by
          have := congrArg Array.toList hrow
          simp only [Array.toList_append, List.append_assoc] at this
          rw [this, List.take_append_of_le_length (by simp [IV_len]; omega), List.take_of_length_le (by rw [List.length_take]; omega)]
        rw [← hrow] at this
        refine Calls.mono this fun e w' ⟨he, hw⟩ => ?_
        have a1 := MapKept.heap_alloc w (.cells row.toArray (ρ.t 3))
        obtain ⟨a2, a3, a4⟩ := setCells_row (b := w.heap.size) (e := ρ.t 3) (IV ys) i row ((w.alloc (.cells row.toArray (ρ.t 3))).drew) a1.1 (by rw [IV_len, hrl]; omega)
        obtain ⟨a5, a6, a7⟩ := setCells_row (b := w.heap.size) (e := ρ.t 3) ((IV xs).drop i) (i + ys.length) _ (((w.alloc (.cells row.toArray (ρ.t 3))).drew.setCells w.heap.size i (IV ys)).drew) a2 (by simp [splice, IV_len, hrl]; omega)
        rw [← hw] at a5 a6 a7
        refine ⟨_, he, some ⟨w.heap.size, 0, none⟩, G, by rw [hlen], .inr ⟨w.heap.size, _, rfl, a5, by rw [hlen]; exact hGn, hGm, ?_, ?_⟩, ?_, fun k hk _ => ?_, fun k ⟨a, ha, hk⟩ => ?_⟩
        · simp [splice, IV_len, hrl]; omega
        · rw [hlen]
          simp only [splice, hrt, IV_len, List.length_drop]
          have e1 : ((IV xs).take i ++ IV ys ++ row.drop (i + ys.length)).take (i + ys.length) = (IV xs).take i ++ IV ys := by
            rw [List.take_append_of_le_length (by simp [IV_len]; omega), List.take_of_length_le (by simp [IV_len]; omega)]
          rw [e1, List.take_append_of_le_length (by simp [IV_len]; omega), List.take_of_length_le (by simp [IV_len]; omega)]
          simp [IV]
        · exact (Grow.of_below (Ext.one w _).below).trans ((show Grow (w.alloc _) (w.alloc _).drew from ⟨rfl, rfl, rfl, Nat.le_refl _⟩).trans (a3.trans ((show Grow (World.setCells _ _ _ _) (World.setCells _ _ _ _).drew from ⟨rfl, rfl, rfl, Nat.le_refl _⟩).trans a6)))
        · have hne : k ≠ w.heap.size := by omega
          exact (a7 k hne).trans ((a4 k hne).trans (a1.2 k hk))
        · obtain rfl := Option.some.inj ha; exact .inr (by subst hk; exact Nat.le_refl _)
      · have hy' := hy
        rcases hy' with ⟨h, _⟩ | ⟨vb', vs, e0, hvh, v1, v2, v3, v4⟩
        · cases h
        · injection e0 with e0; injection e0 with e0; subst e0
          have hsh : ∀ {q : Nat} {l : List Value}, w.heap[q]? = some (.cells l.toArray (ρ.t 3) (0, 0)) → w.shape? q = some (ρ.t 3, l.length) := fun h => by unfold World.shape?; simp [h]
          have hfz2 : ∀ j, w.frozen? ⟨vb, j, none⟩ = false := fun j => by unfold World.frozen?; simp only [hvh]; simp
          have := Any2.slices_Insert_int_shift L b 0 xs.length cap i vb 0 ys.length vc (IV xs) (IV ys) w hlt hm hroom hcap63 hvb (IV_len _) (IV_len _) hxc (fun j hj => hsome j (by omega)) (fun j _ => hfz _) hyc IV_one IV_one _ _ _ _ (hsh hvh) (hsh hh) (by omega) (hfz2 _) (hfz2 _)
          refine Calls.mono this fun e w' ⟨he, hw⟩ => ?_
          obtain ⟨a2, a3, a4⟩ := setCells_row (b := b) (e := ρ.t 3) ((IV xs).drop i) (0 + (i + ys.length)) cs w.drew hh (by simp [IV_len]; omega)
          obtain ⟨a5, a6, a7⟩ := setCells_row (b := b) (e := ρ.t 3) (IV ys) (0 + i) _ _ a2 (by simp [splice, IV_len]; omega)
          rw [← hw] at a5 a6 a7
          refine ⟨_, he, some ⟨b, 0, none⟩, cap, by rw [hlen], .inr ⟨b, _, rfl, a5, by rw [hlen]; exact hroom, h2, ?_, ?_⟩, ?_, hkk fun k hk => ?_, fun k hk => .inl hk⟩
          · simp [splice, IV_len]; omega
          · rw [hlen]
            simp only [splice, IV_len, Nat.zero_add, List.length_drop]
            have e0 : ∀ (l : List Value), ((cs.take (i + ys.length)) ++ l).take i = (IV xs).take i := fun l => by
              rw [List.take_append_of_le_length (by simp; omega), List.take_take, Nat.min_eq_left (by omega), ← h4, List.take_take, Nat.min_eq_left (by omega)]
            have e2 : ((cs.take (i + ys.length)) ++ (IV xs).drop i ++ cs.drop (i + ys.length + (xs.length - i))).drop (i + ys.length) = (IV xs).drop i ++ cs.drop (i + ys.length + (xs.length - i)) := by
              rw [List.append_assoc]
              exact List.drop_left' (by simp; omega)
            rw [e2, List.append_assoc (cs.take _), e0, List.append_assoc, ← List.append_assoc (IV ys), ← List.append_assoc, List.take_append_of_le_length (by simp [IV_len]; omega), List.take_of_length_le (by simp [IV_len]; omega)]
            simp [IV]
          · exact (show Grow w w.drew from ⟨rfl, rfl, rfl, Nat.le_refl _⟩).trans (a3.trans a6)
          · exact (a7 k hk).trans (a4 k hk)
    · obtain rfl : i = xs.length := by omega
      rcases Nat.lt_or_ge cap (xs.length + ys.length) with hroom | hroom
      · have := Any2.slices_Insert_int_end_grow L (some ⟨b, 0, none⟩) xs.length cap vb 0 ys.length vc (IV xs) (IV ys) w hm h1 hroom hbig (IV_len _) (IV_len _) (fun h => nomatch h) (fun a ha j v hj => by obtain rfl := Option.some.inj ha; rw [Addr.add_lit]; exact hxc j v hj) hyc IV_one
        obtain ⟨G, hG⟩ : ∃ G, G = grownCap w (xs.length + ys.length) cap (ρ.t 3) := ⟨_, rfl⟩
        have hGn : xs.length + ys.length ≤ G := by rw [hG]; exact grownCap_ge w _ _ _
        have hGm : G ≤ maxLen := by rw [hG]; exact grownCap_le_maxLen _ _ _ _ hml
        rw [← hG] at this
        have e0 : IV xs ++ IV ys = IV (xs ++ ys) := by simp [IV]
        have e1 : xs.take xs.length ++ (ys ++ xs.drop xs.length) = xs ++ ys := by simp
        rw [e0] at this
        rw [e1]
        refine Calls.mono this fun e w' ⟨he, hw⟩ => ⟨_, he, some ⟨w.heap.size, 0, none⟩, G, by rw [List.length_append], ?_, ?_, fun k hk _ => ?_, fun k ⟨a, ha, hk⟩ => ?_⟩
        · subst hw
          exact alloc_rowI (by rw [zeroC_size, List.length_append]; omega) hGm
        · subst hw; exact alloc_grow _
        · subst hw
          exact (MapKept.heap_alloc w.drew _).2 k hk
        · obtain rfl := Option.some.inj ha; exact .inr (by subst hk; exact Nat.le_refl _)
      · have := Any2.slices_Insert_int_end_room L b 0 xs.length cap vb 0 ys.length vc (IV ys) w hm hroom hcap63 (IV_len _) (fun j hj => by rw [Nat.add_assoc]; exact hsome _ (by omega)) (fun j _ => hfz _) hyc IV_one
        refine Calls.mono this fun e w' ⟨he, hw⟩ => ?_
        obtain ⟨a2, a3, a4⟩ := setCells_row (b := b) (e := ρ.t 3) (IV ys) (0 + xs.length) cs w hh (by simp [IV_len]; omega)
        rw [← hw] at a2 a3 a4
        refine ⟨_, he, some ⟨b, 0, none⟩, cap, by rw [hlen], .inr ⟨b, _, rfl, a2, by rw [hlen]; exact hroom, h2, ?_, ?_⟩, a3, hkk a4, fun k hk => .inl hk⟩
        · simp [splice, IV_len]; omega
        · rw [hlen]
          simp only [splice, Nat.zero_add]
          rw [List.take_append_of_le_length (by simp [IV_len]; omega), List.take_of_length_le (by simp only [List.length_append, List.length_take, IV_len]; omega), h4]
          simp [IV]
theorem insN_some {α : Type} {by_ : Nat} {xs ys zs : List α} {i : Int} (h : insN by_ xs i ys = some zs) : 0 < ys.length ∧ 0 ≤ i ∧ i ≤ (xs.length : Int) ∧ (xs.length + ys.length) * by_ ≤ 140737488355328 ∧ zs = xs.take i.toNat ++ (ys ++ xs.drop i.toNat) := by
  cases ys with
  | nil => cases h
  | cons y l =>
    simp only [insN] at h
    split at h
    · rename_i hc
      obtain rfl := Option.some.inj h
      exact ⟨Nat.succ_pos _, hc.1, hc.2.1, hc.2.2, rfl⟩
    · cases h
theorem delN_some {α : Type} {xs zs : List α} {i j : Int} (h : delN xs i j = some zs) : xs ≠ [] ∧ 0 ≤ i ∧ i ≤ j ∧ j ≤ (xs.length : Int) ∧ zs = xs.take i.toNat ++ xs.drop j.toNat := by
  cases xs with
  | nil => cases h
  | cons x l =>
    simp only [delN, delI] at h
    split at h
    · rename_i hc
      obtain rfl := Option.some.inj h
      exact ⟨(fun e => nomatch e), hc.1, hc.2.1, hc.2.2, rfl⟩
    · cases h
def conIns (E : TE) (e : TypeId) : Con E := conOf E [.g (.sl (.int .i64)) [some e], .d (.int .i64), .g (.sl (.int .i64)) [some e]] [(.sl (.int .i64), [some e])] false fun a => insN (α := Int) 8 a.1 a.2.1 a.2.2.1
theorem conIns_ok {ρ : Ren} (L : Lays2.n21 P ρ) : Con.OK P E (ρ.f 21) (conIns E (ρ.t 3)) := by
  intro R a k r hr
  obtain ⟨y, h1, h2⟩ := bind_some hr
  refine ⟨_, _, h2, ?_⟩
  obtain ⟨xs, i, ys, u⟩ := a
  obtain ⟨hm, hi0, hi1, hbig, rfl⟩ := insN_some (show insN 8 xs i ys = some y from h1)
  intro w z g Bs svs vs hav hH hfr hv
  obtain rfl := Option.some.inj (show some [V1.one (.own 0), .one (.dt (.int .i64) i), .one (.own 1)] = some svs from hav)
  cases hv with
  | cons v1 hv => cases hv with
    | cons v2 hv => cases hv with
      | cons v3 hv =>
        cases hv
        have hx := hH.hold 0 (.row (ρ.t 3) (.int .i64) xs []) rfl
        have hy := hH.hold 1 (.row (ρ.t 3) (.int .i64) ys []) rfl
        obtain ⟨l0, g0, n0, r0⟩ := rowI_of hx
        obtain ⟨l1, g1, n1, r1⟩ := rowI_of hy
        obtain ⟨l0', e0, rfl⟩ := v1
        rw [g0] at e0; obtain rfl := Option.some.inj e0
        obtain ⟨l1', e1, rfl⟩ := v3
        rw [g1] at e1; obtain rfl := Option.some.inj e1
        obtain ⟨vs2, e2, _⟩ := RD.int_inv (show RD E z [.int .i64] (i, ()) _ from v2)
        obtain ⟨rfl, _⟩ := List.cons.inj e2
        rcases r1 with ⟨_, _, rfl⟩ | r1'
        · cases hm
        · have r1'' := r1'
          obtain ⟨vb, cs, hA1, _⟩ := r1''
          have hap : ¬ rowF l0.A vb := fun ⟨a0, ha0, hb0⟩ => hH.apart 0 1 _ _ vb (by decide) rfl rfl ⟨l0, a0, g0, ha0, hb0⟩ ⟨l1, _, g1, hA1, rfl⟩
          have hrun := insert_run L r0 (by rw [← hA1]; exact .inr r1') hm (i := i.toNat) (by omega) hbig hap
          rw [n0, n1, hA1]
          rw [Int.toNat_of_nonneg hi0] at hrun
          refine hrun.mono fun v w' ⟨A', cap', hv', hr', hg', hk', hf'⟩ => ?_
          subst hv'
          refine ⟨z, g.put 2 ⟨A', _, cap', 1, 0, 0⟩, [.one (.own 2)], Fz.Le.refl z, fun _ => rfl, Ga.le_put (hfr 2 (Nat.le_refl _)), rfl, ⟨_, Ga.put_self _ _ _, rfl⟩, ?_⟩
          refine hH.rowI (i := 0) (xs := xs) rfl g0 rfl (hfr 2 (Nat.le_refl _)) hg' hk' hr' hf' fun j o hj => ?_
          rcases upH_one (H := fun _ => none) (i := 2) (p := .row (ρ.t 3) (.int .i64) (xs.take i.toNat ++ (ys ++ xs.drop i.toNat)) []) hj with h | ⟨_, h⟩
          · exact h
          · cases h
theorem mapBlock_row {b : Nat} {e : TypeId} {cs : Array Value} {f : Array Value → Array Value} (h : w.heap[b]? = some (.cells cs e (0, 0))) : (mapBlock w b f).heap[b]? = some (.cells (f cs) e (0, 0)) ∧ Grow w (mapBlock w b f) ∧ ∀ k, k ≠ b → (mapBlock w b f).heap[k]? = w.heap[k]? := by
  refine ⟨?_, ⟨rfl, rfl, rfl, by simp [mapBlock]⟩, fun k hk => ?_⟩
  · unfold mapBlock
    simp only [Array.getElem?_modify, if_true, h, Option.map_some, onCells]
  · unfold mapBlock
    simp only [Array.getElem?_modify]
    rw [if_neg fun e => hk e.symm]
theorem delete_run {ρ : Ren} (L : Lays2.n23 P ρ) {xs : List Int} {A : Option Addr} {cap : Nat} {i j : Nat} (hx : RowI w (ρ.t 3) xs A cap) (hne : xs ≠ []) (hij : i ≤ j) (hj : j ≤ xs.length) :
    Ret P (ρ.f 23) #[.slice A xs.length cap, .int .i64 (i : Int), .int .i64 (j : Int)] w fun v w' => ∃ A' cap', v = .slice A' (xs.take i ++ xs.drop j).length cap' ∧ RowI w' (ρ.t 3) (xs.take i ++ xs.drop j) A' cap' ∧ Grow w w' ∧ (∀ k, k < w.heap.size → ¬ rowF A k → w'.heap[k]? = w.heap[k]?) ∧ ∀ k, rowF A' k → rowF A k ∨ w.heap.size ≤ k := by
  rcases hx with ⟨_, _, h⟩ | ⟨b, cs, rfl, hh, h1, h2, h3, h4⟩
  · exact absurd h hne
  · have hlen : (xs.take i ++ xs.drop j).length = xs.length - (j - i) := by simp; omega
    have hH : Holds (Value.int .i64) w b 0 xs.toArray := fun q hq => by
      have hq' : q < xs.length := by simpa using hq
      refine ⟨?_, by unfold World.frozen?; simp only [hh]; simp⟩
      refine RowI.cell (xs := xs) (.inr ⟨b, cs, rfl, hh, h1, h2, h3, h4⟩) ?_
      rw [IV, List.getElem?_map, List.getElem?_eq_getElem hq', getElem!_pos xs.toArray q hq]
      simp
    have := Any.slices_Delete_int L b 0 cap i j xs w hH h1 (by unfold maxLen at h2; omega) hij hj
    refine Calls.mono this fun e w' ⟨he, q, hw⟩ => ?_
    obtain ⟨d, hd⟩ : ∃ d : Array Int, d = (xs.take i ++ xs.drop j ++ List.replicate (j - i) 0).toArray := ⟨_, rfl⟩
    rw [← hd] at hw
    obtain ⟨m1, m2, m3⟩ := mapBlock_row (w := Go.Sort.ahead w q) (f := putCells (Value.int .i64) 0 d) hh
    rw [show mapBlock (Go.Sort.ahead w q) b (putCells (Value.int .i64) 0 d) = w' from hw.symm] at m1 m2 m3
    subst hd
    refine ⟨_, he, some ⟨b, 0, none⟩, cap, by rw [hlen], .inr ⟨b, _, rfl, by rw [Array.toArray_toList]; exact m1, by rw [hlen]; omega, h2, by simp [putCells, h3], ?_⟩, ⟨m2.os, m2.tape, m2.output, m2.size⟩, fun k _ hk => (m3 k fun e => hk ⟨_, rfl, e⟩), fun k hk => .inl hk⟩
    rw [hlen]
    apply List.ext_getElem?
    intro t
    rw [List.getElem?_take]
    split
    · rename_i ht
      simp only [putCells, Array.toList_mapIdx, List.getElem?_mapIdx]
      have htc : t < cs.length := by omega
      rw [List.getElem?_eq_getElem htc]
      have hsz : t < (xs.take i ++ xs.drop j ++ List.replicate (j - i) 0).toArray.size := by simp; omega
      have hge : ∀ (d : Array Int) (h : t < d.size), d[t]! = d[t] := fun d h => getElem!_pos d t h
      rw [Option.map_some, if_pos ⟨Nat.zero_le _, by rw [Nat.zero_add]; exact hsz⟩, Nat.sub_zero, hge _ hsz, IV, List.getElem?_map, List.getElem?_eq_getElem (by omega)]
      simp only [List.getElem_toArray, Option.map_some]
      rw [List.getElem_append_left (by omega)]
    · rw [List.getElem?_eq_none (by rw [IV_len, hlen]; omega)]
def conDel (E : TE) (e : TypeId) : Con E := conOf E [.g (.sl (.int .i64)) [some e], .d (.int .i64), .d (.int .i64)] [(.sl (.int .i64), [some e])] false fun a => delN (α := Int) a.1 a.2.1 a.2.2.1
theorem conDel_ok {ρ : Ren} (L : Lays2.n23 P ρ) : Con.OK P E (ρ.f 23) (conDel E (ρ.t 3)) := by
  intro R a k r hr
  obtain ⟨y, h1, h2⟩ := bind_some hr
  refine ⟨_, _, h2, ?_⟩
  obtain ⟨xs, i, j, u⟩ := a
  obtain ⟨hne, hi0, hij, hj, rfl⟩ := delN_some (show delN xs i j = some y from h1)
  intro w z g Bs svs vs hav hH hfr hv
  obtain rfl := Option.some.inj (show some [V1.one (.own 0), .one (.dt (.int .i64) i), .one (.dt (.int .i64) j)] = some svs from hav)
  cases hv with
  | cons v1 hv => cases hv with
    | cons v2 hv => cases hv with
      | cons v3 hv =>
        cases hv
        have hx := hH.hold 0 (.row (ρ.t 3) (.int .i64) xs []) rfl
        obtain ⟨l0, g0, n0, r0⟩ := rowI_of hx
        obtain ⟨l0', e0, rfl⟩ := v1
        rw [g0] at e0; obtain rfl := Option.some.inj e0
        obtain ⟨vs2, e2, _⟩ := RD.int_inv (show RD E z [.int .i64] (i, ()) _ from v2)
        obtain ⟨rfl, _⟩ := List.cons.inj e2
        obtain ⟨vs3, e3, _⟩ := RD.int_inv (show RD E z [.int .i64] (j, ()) _ from v3)
        obtain ⟨rfl, _⟩ := List.cons.inj e3
        have hrun := delete_run L r0 hne (i := i.toNat) (j := j.toNat) (by omega) (by omega)
        rw [Int.toNat_of_nonneg hi0, Int.toNat_of_nonneg (by omega)] at hrun
        rw [n0]
        refine hrun.mono fun v w' ⟨A', cap', hv', hr', hg', hk', hf'⟩ => ?_
        subst hv'
        refine ⟨z, g.put 1 ⟨A', _, cap', 1, 0, 0⟩, [.one (.own 1)], Fz.Le.refl z, fun _ => rfl, Ga.le_put (hfr 1 (Nat.le_refl _)), rfl, ⟨_, Ga.put_self _ _ _, rfl⟩, ?_⟩
        refine hH.rowI (i := 0) (xs := xs) rfl g0 rfl (hfr 1 (Nat.le_refl _)) hg' hk' hr' hf' fun j' o hj' => ?_
        rcases upH_one (H := fun _ => none) (i := 1) (p := .row (ρ.t 3) (.int .i64) (xs.take i.toNat ++ xs.drop j.toNat) []) hj' with h | ⟨_, h⟩
        · exact h
        · cases h
end
end Rt
end Go
namespace Go.Proofs
open Go.Shelf
def Tryz.laysDelete_ren : Go.Shelf.Ren := ⟨fun | 23 => 151 | n => n, fun | 22 => 28 | 3 => 3 | 4 => 4 | 0 => 0 | n => n, fun | n => n⟩
theorem Tryz.laysDelete : Go.Proofs.Lays2.n23 Tryz.prog Tryz.laysDelete_ren := {
  mixed := by kernel_rfl
  f23 := Tryz.func151.trans (congrArg some (by kernel_rfl))
  t0 := Tryz.underlying0
  a0 := Tryz.isAgg0
  z0 := Tryz.sizeOf0
  v0 := Tryz.zeroValue0
  t3 := Tryz.underlying3
  a3 := Tryz.isAgg3
  z3 := Tryz.sizeOf3
  v3 := Tryz.zeroValue3
  t4 := Tryz.underlying4
  a4 := Tryz.isAgg4
  z4 := Tryz.sizeOf4
  v4 := Tryz.zeroValue4
  t22 := Tryz.underlying28
  a22 := Tryz.isAgg28
  z22 := Tryz.sizeOf28
  v22 := Tryz.zeroValue28
  i3 := by kernel_rfl }
end Go.Proofs
namespace Go.Proofs.YtebcipkdnlfboaaGreat
open Go.Shelf Go.RowKit Go.Rt
theorem fDelete : Tryz.laysDelete_ren.f 23 = 151 := by kernel_rfl
theorem tDelete : Tryz.laysDelete_ren.t 3 = 3 := by kernel_rfl
def con_slices_Delete : Con te := conDel te 3
theorem ok_con_slices_Delete : Con.OK Tryz.prog te 151 con_slices_Delete ∧ bodyB Tryz.prog 151 = true := by
  refine ⟨?_, by kernel_rfl⟩
  have h := conDel_ok (E := te) Tryz.laysDelete
  rw [fDelete, tDelete] at h
  exact h
end Go.Proofs.YtebcipkdnlfboaaGreat
namespace Go.Proofs
open Go.Shelf
def Tryz.laysInsert_ren : Go.Shelf.Ren := ⟨fun | 21 => 143 | 27 => 177 | 28 => 178 | 35 => 191 | 39 => 201 | n => n, fun | 22 => 28 | 3 => 3 | 4 => 4 | 0 => 0 | n => n, fun | n => n⟩
theorem Tryz.laysInsert : Go.Proofs.Lays2.n21 Tryz.prog Tryz.laysInsert_ren := {
  mixed := by kernel_rfl
  f21 := Tryz.func143.trans (congrArg some (by kernel_rfl))
  f27 := Tryz.func177.trans (congrArg some (by kernel_rfl))
  f28 := Tryz.func178.trans (congrArg some (by kernel_rfl))
  f35 := Tryz.func191.trans (congrArg some (by kernel_rfl))
  f39 := Tryz.func201.trans (congrArg some (by kernel_rfl))
  t0 := Tryz.underlying0
  a0 := Tryz.isAgg0
  z0 := Tryz.sizeOf0
  v0 := Tryz.zeroValue0
  t3 := Tryz.underlying3
  a3 := Tryz.isAgg3
  z3 := Tryz.sizeOf3
  v3 := Tryz.zeroValue3
  t4 := Tryz.underlying4
  a4 := Tryz.isAgg4
  z4 := Tryz.sizeOf4
  v4 := Tryz.zeroValue4
  t22 := Tryz.underlying28
  a22 := Tryz.isAgg28
  z22 := Tryz.sizeOf28
  v22 := Tryz.zeroValue28
  i3 := by kernel_rfl }
end Go.Proofs
namespace Go.Proofs.YtebcipkdnlfboaaGreat
open Go.Shelf Go.RowKit Go.Rt
theorem fInsert : Tryz.laysInsert_ren.f 21 = 143 := by kernel_rfl
theorem tInsert : Tryz.laysInsert_ren.t 3 = 3 := by kernel_rfl
def con_slices_Insert : Con te := conIns te 3
theorem ok_con_slices_Insert : Con.OK Tryz.prog te 143 con_slices_Insert ∧ bodyB Tryz.prog 143 = true := by
  refine ⟨?_, by kernel_rfl⟩
  have h := conIns_ok (E := te) Tryz.laysInsert
  rw [fInsert, tInsert] at h
  exact h
end Go.Proofs.YtebcipkdnlfboaaGreat
namespace Go.Proofs
open Go.Shelf
def Tryz.laysRepeat_ren : Go.Shelf.Ren := ⟨fun | 105 => 182 | 212 => 192 | 99 => 193 | 165 => 194 | 166 => 195 | 170 => 196 | 169 => 197 | 263 => 202 | 264 => 203 | 206 => 204 | 240 => 205 | 241 => 206 | 276 => 207 | 277 => 208 | n => n, fun | 9 => 9 | 3 => 3 | 4 => 4 | 20 => 20 | 0 => 0 | 46 => 164 | 109 => 176 | 5 => 5 | 72 => 181 | 76 => 185 | 51 => 191 | 146 => 192 | 53 => 194 | 148 => 195 | 70 => 179 | 37 => 174 | 75 => 184 | 127 => 197 | 164 => 198 | 80 => 188 | n => n, fun | n => n⟩
theorem Tryz.laysRepeat : Go.Proofs.Lays.n105 Tryz.prog Tryz.laysRepeat_ren := {
  mixed := by kernel_rfl
  f99 := Tryz.func193.trans (congrArg some (by kernel_rfl))
  f105 := Tryz.func182.trans (congrArg some (by kernel_rfl))
  f165 := Tryz.func194.trans (congrArg some (by kernel_rfl))
  f166 := Tryz.func195.trans (congrArg some (by kernel_rfl))
  f169 := Tryz.func197.trans (congrArg some (by kernel_rfl))
  f170 := Tryz.func196.trans (congrArg some (by kernel_rfl))
  f206 := Tryz.func204.trans (congrArg some (by kernel_rfl))
  f212 := Tryz.func192.trans (congrArg some (by kernel_rfl))
  f240 := Tryz.func205.trans (congrArg some (by kernel_rfl))
  f241 := Tryz.func206.trans (congrArg some (by kernel_rfl))
  f263 := Tryz.func202.trans (congrArg some (by kernel_rfl))
  f264 := Tryz.func203.trans (congrArg some (by kernel_rfl))
  f276 := Tryz.func207.trans (congrArg some (by kernel_rfl))
  f277 := Tryz.func208.trans (congrArg some (by kernel_rfl))
  t0 := Tryz.underlying0
  a0 := Tryz.isAgg0
  z0 := Tryz.sizeOf0
  v0 := Tryz.zeroValue0
  t3 := Tryz.underlying3
  a3 := Tryz.isAgg3
  z3 := Tryz.sizeOf3
  v3 := Tryz.zeroValue3
  t4 := Tryz.underlying4
  a4 := Tryz.isAgg4
  z4 := Tryz.sizeOf4
  v4 := Tryz.zeroValue4
  t5 := Tryz.underlying5
  a5 := Tryz.isAgg5
  z5 := Tryz.sizeOf5
  v5 := Tryz.zeroValue5
  t9 := Tryz.underlying9
  a9 := Tryz.isAgg9
  z9 := Tryz.sizeOf9
  v9 := Tryz.zeroValue9
  t20 := Tryz.underlying20
  a20 := Tryz.isAgg20
  z20 := Tryz.sizeOf20
  v20 := Tryz.zeroValue20
  t37 := Tryz.underlying174
  a37 := Tryz.isAgg174
  z37 := Tryz.sizeOf174
  v37 := Tryz.zeroValue174
  t46 := Tryz.underlying164
  a46 := Tryz.isAgg164
  z46 := Tryz.sizeOf164
  v46 := Tryz.zeroValue164
  t51 := Tryz.underlying191
  a51 := Tryz.isAgg191
  z51 := Tryz.sizeOf191
  v51 := Tryz.zeroValue191
  t53 := Tryz.underlying194
  a53 := Tryz.isAgg194
  z53 := Tryz.sizeOf194
  v53 := Tryz.zeroValue194
  t70 := Tryz.underlying179
  a70 := Tryz.isAgg179
  z70 := Tryz.sizeOf179
  v70 := Tryz.zeroValue179
  t72 := Tryz.underlying181
  a72 := Tryz.isAgg181
  z72 := Tryz.sizeOf181
  v72 := Tryz.zeroValue181
  t75 := Tryz.underlying184
  a75 := Tryz.isAgg184
  z75 := Tryz.sizeOf184
  v75 := Tryz.zeroValue184
  t76 := Tryz.underlying185
  a76 := Tryz.isAgg185
  z76 := Tryz.sizeOf185
  v76 := Tryz.zeroValue185
  t109 := Tryz.underlying176
  a109 := Tryz.isAgg176
  z109 := Tryz.sizeOf176
  v109 := Tryz.zeroValue176
  t127 := Tryz.underlying197
  a127 := Tryz.isAgg197
  z127 := Tryz.sizeOf197
  v127 := Tryz.zeroValue197
  t146 := Tryz.underlying192
  a146 := Tryz.isAgg192
  z146 := Tryz.sizeOf192
  v146 := Tryz.zeroValue192
  t148 := Tryz.underlying195
  a148 := Tryz.isAgg195
  z148 := Tryz.sizeOf195
  v148 := Tryz.zeroValue195
  t164 := Tryz.underlying198
  a164 := Tryz.isAgg198
  z164 := Tryz.sizeOf198
  v164 := Tryz.zeroValue198 }
end Go.Proofs
namespace Go.Proofs.YtebcipkdnlfboaaGreat
open Go.Shelf Go.RowKit Go.Rt
theorem Tryz.extraRepeat : Builder.Extra Tryz.prog Tryz.laysRepeat_ren where
  sizeBuilder := by kernel_rfl
  liesBuilder := by kernel_rfl
  t5 := Tryz.laysRepeat.t5
  a5 := Tryz.laysRepeat.a5
  z5 := Tryz.laysRepeat.z5
  v5 := Tryz.laysRepeat.v5
  infoByte := by kernel_rfl
  cellsByte := by kernel_rfl
  sizeByte := by kernel_rfl
  neB5 := by decide
theorem fRepeat : Tryz.laysRepeat_ren.f 105 = 182 := by kernel_rfl
theorem repeatL_eq (l : List UInt8) : ∀ c, Lib.repeatL l c = (List.replicate c l).flatten
  | 0 => rfl
  | c + 1 => by rw [Lib.repeatL, repeatL_eq l c, List.replicate_succ, List.flatten_cons]
theorem W_strings_Repeat (x0 : Str) (x1 : Int) (r : Str) (hF : strings_Repeat x0 x1 = some r) (w0 : World) : Ret Tryz.prog 182 #[S x0, .int .i64 x1] w0 fun v w => v = S r ∧ Ext w0 w := by
  unfold strings_Repeat at hF
  split at hF
  · rename_i h
    obtain ⟨h0, h1, h2⟩ := h
    simp only [Option.some.injEq] at hF
    subst hF
    obtain ⟨c, rfl⟩ : ∃ c : Nat, x1 = (c : Int) := ⟨x1.toNat, by omega⟩
    have hh := Any.strings_Repeat Tryz.laysRepeat Tryz.extraRepeat ⟨x0.toArray⟩ c w0 (by omega) (by rw [size_mk]; simpa using h2)
    rw [fRepeat] at hh
    refine Calls.mono hh fun e w ⟨he, hb⟩ => ⟨_, he, ?_, Ext.of_below hb⟩
    simp [S, repeatL_eq]
  · cases hF
def con_strings_Repeat : Con te := conOf te [.d .str, .d (.int .i64)] [(.str, [])] false fun a => strings_Repeat a.1 a.2.1
theorem ok_con_strings_Repeat : Con.OK Tryz.prog te 182 con_strings_Repeat ∧ bodyB Tryz.prog 182 = true := by
  refine ⟨fun R a k r hr => ?_, by kernel_rfl⟩
  obtain ⟨y, h1, h2⟩ := bind_some hr
  exact ⟨_, _, h2, callOK_flat (y := y) rfl rfl rfl rfl rfl fun w => W_strings_Repeat a.1 a.2.1 y h1 w⟩
end Go.Proofs.YtebcipkdnlfboaaGreat
namespace Go.Proofs.YtebcipkdnlfboaaGreat
open Go.Rt Go.RowKit
noncomputable section
theorem e_10 (a : PA te [.d (.st 4)]) : law13_small a.1 = evFun Tryz.prog te eqL tnil Tryz.f10 [.d (.st 4)] [(.bool, [])] (.s .p (.s .p (.s (.s .p (.lp ⟨[(30, .d (.int .i64))], [], [1, 29], [0], [], 16014⟩ ⟨[], [], [], [], [], 16014⟩ true .p)) .p))) a := by kernel_rfl
def c_10 : Con te := conOf te [.d (.st 4)] [(.bool, [])] false fun a => law13_small a.1
theorem ok_10 : Con.OK Tryz.prog te 10 c_10 ∧ bodyB Tryz.prog 10 = true := ⟨conOf_ok eqL_ok tnil_ok Tryz.func10 (by kernel_rfl) e_10, by kernel_rfl⟩
theorem e_38 (a : PA te [.d .str]) : user_Valid a.1 = evFun Tryz.prog te eqL tnil Tryz.f38 [.d .str] [(.bool, [])] (.s .p (.s .p (.s (.s .p (.lp ⟨[(16, .d (.int .i64))], [], [0, 15], [], [], 4007⟩ ⟨[], [], [], [], [], 4007⟩ true .p)) .p))) a := by kernel_rfl
def c_38 : Con te := conOf te [.d .str] [(.bool, [])] false fun a => user_Valid a.1
theorem ok_38 : Con.OK Tryz.prog te 38 c_38 ∧ bodyB Tryz.prog 38 = true := ⟨conOf_ok eqL_ok tnil_ok Tryz.func38 (by kernel_rfl) e_38, by kernel_rfl⟩
theorem e_95 (a : PA te [.mp 117 .str (.int .i64), .d (.sl .str)]) : user_members a.1 a.2.1 = evFun Tryz.prog te eqL tnil Tryz.f95 [.mp 117 .str (.int .i64), .d (.sl .str)] [(.int .i64, [])] (.s .p (.s (.s .p (.lp ⟨[(9, .d (.int .i64))], [], [0, 1, 7, 8], [0], [], 5⟩ ⟨[], [], [], [0], [], 5⟩ true .p)) .p)) a := by kernel_rfl
def c_95 : Con te := conOf te [.mp 117 .str (.int .i64), .d (.sl .str)] [(.int .i64, [])] false fun a => user_members a.1 a.2.1
theorem ok_95 : Con.OK Tryz.prog te 95 c_95 ∧ bodyB Tryz.prog 95 = true := ⟨conOf_ok eqL_ok tnil_ok Tryz.func95 (by kernel_rfl) e_95, by kernel_rfl⟩
theorem e_36 (a : PA te [.d (.sl (.st 0))]) : user_Check a.1 = evFun Tryz.prog te eqL (tb 95 c_95 (tb 38 c_38 tnil)) Tryz.f36 [.d (.sl (.st 0))] [(.int .i64, [])] (.s .p (.s .p (.s .p (.s (.s .p (.lp ⟨[(17, .d (.int .i64))], [(4, true, .map 117 .str (.int .i64))], [0, 3, 4, 15, 16], [6], [], 13⟩ ⟨[], [(4, true, .map 117 .str (.int .i64))], [0, 3, 4], [6], [], 13⟩ false .p)) (.s (.s .p (.lp ⟨[(29, .d (.int .i64))], [(4, true, .map 117 .str (.int .i64)), (6, true, .map 117 .str (.int .i64))], [3, 4, 27, 28], [], [], 16⟩ ⟨[], [], [], [], [], 16⟩ true .p)) .p))))) a := by kernel_rfl
def c_36 : Con te := conOf te [.d (.sl (.st 0))] [(.int .i64, [])] false fun a => user_Check a.1
theorem ok_36 : Con.OK Tryz.prog te 36 c_36 ∧ bodyB Tryz.prog 36 = true := ⟨conOf_ok eqL_ok (tb_ok ok_95 (tb_ok ok_38 tnil_ok)) Tryz.func36 (by kernel_rfl) e_36, by kernel_rfl⟩
theorem e_37 (a : PA te [.d (.sl (.st 1))]) : quota_Check a.1 = evFun Tryz.prog te eqL (tb 38 c_38 tnil) Tryz.f37 [.d (.sl (.st 1))] [(.int .i64, [])] (.s .p (.s .p (.s (.s .p (.lp ⟨[(10, .d (.int .i64))], [], [0, 8, 9], [], [], 7⟩ ⟨[], [], [], [], [], 7⟩ true (.s .p (.s .p (.s (.s .p (.s .p (.s .p (.s (.dr [0, 0, 0, 0, 0, 0, 0, 0, 0, 0, 0, 0, 0, 0] [] false []) .p)))) .p))))) .p))) a := by kernel_rfl
def c_37 : Con te := conOf te [.d (.sl (.st 1))] [(.int .i64, [])] false fun a => quota_Check a.1
theorem ok_37 : Con.OK Tryz.prog te 37 c_37 ∧ bodyB Tryz.prog 37 = true := ⟨conOf_ok eqL_ok (tb_ok ok_38 tnil_ok) Tryz.func37 (by kernel_rfl) e_37, by kernel_rfl⟩
theorem e_39 (a : PA te [.d (.sl (.st 0))]) : slices_Clone_apiUserapiUser a.1 = evFun Tryz.prog te eqL tnil Tryz.f39 [.d (.sl (.st 0))] [(.sl (.st 0), [some 68])] (.p : Pl) a := by kernel_rfl
def c_39 : Con te := conOf te [.d (.sl (.st 0))] [(.sl (.st 0), [some 68])] true fun a => slices_Clone_apiUserapiUser a.1
theorem ok_39 : Con.OK Tryz.prog te 39 c_39 ∧ bodyB Tryz.prog 39 = true := ⟨conOf_ok eqL_ok tnil_ok Tryz.func39 (by kernel_rfl) e_39, by kernel_rfl⟩
theorem e_40 (a : PA te [.d (.sl (.st 1))]) : slices_Clone_apiQuotaapiQuota a.1 = evFun Tryz.prog te eqL tnil Tryz.f40 [.d (.sl (.st 1))] [(.sl (.st 1), [some 70])] (.p : Pl) a := by kernel_rfl
def c_40 : Con te := conOf te [.d (.sl (.st 1))] [(.sl (.st 1), [some 70])] false fun a => slices_Clone_apiQuotaapiQuota a.1
theorem ok_40 : Con.OK Tryz.prog te 40 c_40 ∧ bodyB Tryz.prog 40 = true := ⟨conOf_ok eqL_ok tnil_ok Tryz.func40 (by kernel_rfl) e_40, by kernel_rfl⟩
theorem e_42 (a : PA te [.d (.int .i64)]) : filesrv_clock a.1 = evFun Tryz.prog te eqL tnil Tryz.f42 [.d (.int .i64)] [(.int .i64, [])] (.p : Pl) a := by kernel_rfl
def c_42 : Con te := conOf te [.d (.int .i64)] [(.int .i64, [])] false fun a => filesrv_clock a.1
theorem ok_42 : Con.OK Tryz.prog te 42 c_42 ∧ bodyB Tryz.prog 42 = true := ⟨conOf_ok eqL_ok tnil_ok Tryz.func42 (by kernel_rfl) e_42, by kernel_rfl⟩
theorem e_96 (a : PA te [.d .str]) : tree_short a.1 = evFun Tryz.prog te eqL tnil Tryz.f96 [.d .str] [(.str, [])] (.p : Pl) a := by kernel_rfl
def c_96 : Con te := conOf te [.d .str] [(.str, [])] false fun a => tree_short a.1
theorem ok_96 : Con.OK Tryz.prog te 96 c_96 ∧ bodyB Tryz.prog 96 = true := ⟨conOf_ok eqL_ok tnil_ok Tryz.func96 (by kernel_rfl) e_96, by kernel_rfl⟩
theorem e_97 (a : PA te [.d (.int .i64)]) : tree_clock a.1 = evFun Tryz.prog te eqL tnil Tryz.f97 [.d (.int .i64)] [(.int .i64, [])] (.p : Pl) a := by kernel_rfl
def c_97 : Con te := conOf te [.d (.int .i64)] [(.int .i64, [])] false fun a => tree_clock a.1
theorem ok_97 : Con.OK Tryz.prog te 97 c_97 ∧ bodyB Tryz.prog 97 = true := ⟨conOf_ok eqL_ok tnil_ok Tryz.func97 (by kernel_rfl) e_97, by kernel_rfl⟩
theorem e_41 (a : PA te [.d .str, .d (.int .i64), .d (.int .i64)]) : tree_New a.1 a.2.1 a.2.2.1 = evFun Tryz.prog te eqL (tb 97 c_97 (tb 96 c_96 tnil)) Tryz.f41 [.d .str, .d (.int .i64), .d (.int .i64)] [(.st 3, [none, some 60])] (.p : Pl) a := by kernel_rfl
def c_41 : Con te := conOf te [.d .str, .d (.int .i64), .d (.int .i64)] [(.st 3, [none, some 60])] false fun a => tree_New a.1 a.2.1 a.2.2.1
theorem ok_41 : Con.OK Tryz.prog te 41 c_41 ∧ bodyB Tryz.prog 41 = true := ⟨conOf_ok eqL_ok (tb_ok ok_97 (tb_ok ok_96 tnil_ok)) Tryz.func41 (by kernel_rfl) e_41, by kernel_rfl⟩
theorem e_43 (a : PA te [.d (.sl .str)]) : slices_Clone_stringstring a.1 = evFun Tryz.prog te eqL tnil Tryz.f43 [.d (.sl .str)] [(.sl .str, [some 9])] (.p : Pl) a := by kernel_rfl
def c_43 : Con te := conOf te [.d (.sl .str)] [(.sl .str, [some 9])] false fun a => slices_Clone_stringstring a.1
theorem ok_43 : Con.OK Tryz.prog te 43 c_43 ∧ bodyB Tryz.prog 43 = true := ⟨conOf_ok eqL_ok tnil_ok Tryz.func43 (by kernel_rfl) e_43, by kernel_rfl⟩
theorem e_12 (a : PA te [.d (.sl (.st 0)), .d (.sl (.st 1)), .d .str, .d (.int .i64)]) : filesrv_New a.1 a.2.1 a.2.2.1 a.2.2.2.1 = evFun Tryz.prog te eqL (tb 43 c_43 (tb 41 c_41 (tb 42 c_42 (tb 40 c_40 (tb 39 c_39 (tb 38 c_38 (tb 37 c_37 (tb 36 c_36 tnil)))))))) Tryz.f12 [.d (.sl (.st 0)), .d (.sl (.st 1)), .d .str, .d (.int .i64)] [(.st 4, [some 68, some 70, none, some 60]), (.int .i64, [])] (.s .p (.s .p (.s .p (.s .p (.s .p (.s (.s .p (.lp ⟨[(42, .d (.int .i64))], [(17, true, .row 68 (.st 0) [])], [8, 12, 41], [0, 20, 25, 28], [], 36⟩ ⟨[], [(17, true, .row 68 (.st 0) [])], [8, 12], [0, 20, 25, 28], [], 36⟩ false (.s .p (.s .p (.s (.s .p (.dr [0, 0, 0, 0, 0, 0, 0, 0, 0, 1, 1, 4, 2] [] false [])) .p))))) .p)))))) a := by kernel_rfl
def c_12 : Con te := conOf te [.d (.sl (.st 0)), .d (.sl (.st 1)), .d .str, .d (.int .i64)] [(.st 4, [some 68, some 70, none, some 60]), (.int .i64, [])] true fun a => filesrv_New a.1 a.2.1 a.2.2.1 a.2.2.2.1
theorem ok_12 : Con.OK Tryz.prog te 12 c_12 ∧ bodyB Tryz.prog 12 = true := ⟨conOf_ok eqL_ok (tb_ok ok_43 (tb_ok ok_41 (tb_ok ok_42 (tb_ok ok_40 (tb_ok ok_39 (tb_ok ok_38 (tb_ok ok_37 (tb_ok ok_36 tnil_ok)))))))) Tryz.func12 (by kernel_rfl) e_12, by kernel_rfl⟩
theorem e_133 (a : PA te [.d (.sl (.st 2))]) : slices_Clone_apiNodeapiNode a.1 = evFun Tryz.prog te eqL tnil Tryz.f133 [.d (.sl (.st 2))] [(.sl (.st 2), [some 60])] (.p : Pl) a := by kernel_rfl
def c_133 : Con te := conOf te [.d (.sl (.st 2))] [(.sl (.st 2), [some 60])] false fun a => slices_Clone_apiNodeapiNode a.1
theorem ok_133 : Con.OK Tryz.prog te 133 c_133 ∧ bodyB Tryz.prog 133 = true := ⟨conOf_ok eqL_ok tnil_ok Tryz.func133 (by kernel_rfl) e_133, by kernel_rfl⟩
theorem e_134 (a : PA te [.d (.sl (.int .i64))]) : slices_Clone_intint a.1 = evFun Tryz.prog te eqL tnil Tryz.f134 [.d (.sl (.int .i64))] [(.sl (.int .i64), [some 3])] (.p : Pl) a := by kernel_rfl
def c_134 : Con te := conOf te [.d (.sl (.int .i64))] [(.sl (.int .i64), [some 3])] false fun a => slices_Clone_intint a.1
theorem ok_134 : Con.OK Tryz.prog te 134 c_134 ∧ bodyB Tryz.prog 134 = true := ⟨conOf_ok eqL_ok tnil_ok Tryz.func134 (by kernel_rfl) e_134, by kernel_rfl⟩
theorem e_81 (a : PA te [.d (.st 4)]) : filesrv_fresh a.1 = evFun Tryz.prog te eqL (tb 134 c_134 (tb 40 c_40 (tb 133 c_133 (tb 43 c_43 (tb 39 c_39 tnil))))) Tryz.f81 [.d (.st 4)] [(.st 4, [some 68, some 70, none, some 60, some 3])] (.s .p (.s .p (.s (.s .p (.lp ⟨[(11, .d (.int .i64))], [(6, true, .row 68 (.st 0) [])], [1, 2, 3, 10], [0, 2], [], 12⟩ ⟨[], [(6, true, .row 68 (.st 0) [])], [1, 2, 3], [0, 2], [], 12⟩ false .p)) (.s (.df [0, 0, 0, 0, 0, 0, 1, 4, 1, 2] [] 2) (.s (.dr [0, 0, 0, 1, 0, 0, 0, 1, 4, 2] [4, 5, 6] false []) .p))))) a := by kernel_rfl
def c_81 : Con te := conOf te [.d (.st 4)] [(.st 4, [some 68, some 70, none, some 60, some 3])] true fun a => filesrv_fresh a.1
theorem ok_81 : Con.OK Tryz.prog te 81 c_81 ∧ bodyB Tryz.prog 81 = true := ⟨conOf_ok eqL_ok (tb_ok ok_134 (tb_ok ok_40 (tb_ok ok_133 (tb_ok ok_43 (tb_ok ok_39 tnil_ok))))) Tryz.func81 (by kernel_rfl) e_81, by kernel_rfl⟩
theorem e_154 (a : PA te [.d (.st 3), .f1 (.st 2) .bool]) : tree_find a.1 a.2.1 = evFun Tryz.prog te eqL tnil Tryz.f154 [.d (.st 3), .f1 (.st 2) .bool] [(.int .i64, [])] (.s .p (.s (.s .p (.lp ⟨[(10, .d (.int .i64))], [], [1, 8, 9], [], [], 7⟩ ⟨[], [], [], [], [], 7⟩ true .p)) .p)) a := by kernel_rfl
def c_154 : Con te := conOf te [.d (.st 3), .f1 (.st 2) .bool] [(.int .i64, [])] false fun a => tree_find a.1 a.2.1
theorem ok_154 : Con.OK Tryz.prog te 154 c_154 ∧ bodyB Tryz.prog 154 = true := ⟨conOf_ok eqL_ok tnil_ok Tryz.func154 (by kernel_rfl) e_154, by kernel_rfl⟩
theorem e_155 (a : PA te [.d (.st 2), .p (.int .i64)]) : tree_index_1 a.1 a.2.1 = evFun Tryz.prog te eqL tnil Tryz.f155 [.d (.st 2), .p (.int .i64)] [(.bool, [])] (.p : Pl) a := by kernel_rfl
def c_155 : Con te := conOf te [.d (.st 2), .p (.int .i64)] [(.bool, [])] false fun a => tree_index_1 a.1 a.2.1
theorem ok_155 : Con.OK Tryz.prog te 155 c_155 ∧ bodyB Tryz.prog 155 = true := ⟨conOf_ok eqL_ok tnil_ok Tryz.func155 (by kernel_rfl) e_155, by kernel_rfl⟩
theorem e_105 (a : PA te [.d (.st 3), .d (.int .i64)]) : tree_index a.1 a.2.1 = evFun Tryz.prog te eqL (tb 155 c_155 (tb 154 c_154 tnil)) Tryz.f105 [.d (.st 3), .d (.int .i64)] [(.int .i64, [])] (.p : Pl) a := by kernel_rfl
def c_105 : Con te := conOf te [.d (.st 3), .d (.int .i64)] [(.int .i64, [])] false fun a => tree_index a.1 a.2.1
theorem ok_105 : Con.OK Tryz.prog te 105 c_105 ∧ bodyB Tryz.prog 105 = true := ⟨conOf_ok eqL_ok (tb_ok ok_155 (tb_ok ok_154 tnil_ok)) Tryz.func105 (by kernel_rfl) e_105, by kernel_rfl⟩
theorem e_54 (a : PA te [.d (.st 3), .d (.int .i64)]) : tree_Node a.1 a.2.1 = evFun Tryz.prog te eqL (tb 105 c_105 tnil) Tryz.f54 [.d (.st 3), .d (.int .i64)] [(.st 2, []), (.bool, [])] (.p : Pl) a := by kernel_rfl
def c_54 : Con te := conOf te [.d (.st 3), .d (.int .i64)] [(.st 2, []), (.bool, [])] false fun a => tree_Node a.1 a.2.1
theorem ok_54 : Con.OK Tryz.prog te 54 c_54 ∧ bodyB Tryz.prog 54 = true := ⟨conOf_ok eqL_ok (tb_ok ok_105 tnil_ok) Tryz.func54 (by kernel_rfl) e_54, by kernel_rfl⟩
theorem e_86 (a : PA te [.d (.st 4), .d .str, .d (.int .i64)]) : filesrv_file a.1 a.2.1 a.2.2.1 = evFun Tryz.prog te eqL (tb 54 c_54 (tb 38 c_38 tnil)) Tryz.f86 [.d (.st 4), .d .str, .d (.int .i64)] [(.st 2, []), (.int .i64, [])] (.p : Pl) a := by kernel_rfl
def c_86 : Con te := conOf te [.d (.st 4), .d .str, .d (.int .i64)] [(.st 2, []), (.int .i64, [])] false fun a => filesrv_file a.1 a.2.1 a.2.2.1
theorem ok_86 : Con.OK Tryz.prog te 86 c_86 ∧ bodyB Tryz.prog 86 = true := ⟨conOf_ok eqL_ok (tb_ok ok_54 (tb_ok ok_38 tnil_ok)) Tryz.func86 (by kernel_rfl) e_86, by kernel_rfl⟩
theorem e_55 (a : PA te [.d (.int .i64), .d (.int .i64)]) : filesrv_contains a.1 a.2.1 = evFun Tryz.prog te eqL tnil Tryz.f55 [.d (.int .i64), .d (.int .i64)] [(.bool, [])] (.p : Pl) a := by kernel_rfl
def c_55 : Con te := conOf te [.d (.int .i64), .d (.int .i64)] [(.bool, [])] false fun a => filesrv_contains a.1 a.2.1
theorem ok_55 : Con.OK Tryz.prog te 55 c_55 ∧ bodyB Tryz.prog 55 = true := ⟨conOf_ok eqL_ok tnil_ok Tryz.func55 (by kernel_rfl) e_55, by kernel_rfl⟩
theorem e_58 (a : PA te [.d (.st 4), .d .str, .d (.int .i64)]) : filesrv_directory a.1 a.2.1 a.2.2.1 = evFun Tryz.prog te eqL (tb 55 c_55 (tb 86 c_86 tnil)) Tryz.f58 [.d (.st 4), .d .str, .d (.int .i64)] [(.st 2, []), (.int .i64, [])] (.s .p (.s .p (.j ⟨[(9, .d (.int .i64))], [], [6, 8], [2, 12], [], 17⟩ false .p .p))) a := by kernel_rfl
def c_58 : Con te := conOf te [.d (.st 4), .d .str, .d (.int .i64)] [(.st 2, []), (.int .i64, [])] false fun a => filesrv_directory a.1 a.2.1 a.2.2.1
theorem ok_58 : Con.OK Tryz.prog te 58 c_58 ∧ bodyB Tryz.prog 58 = true := ⟨conOf_ok eqL_ok (tb_ok ok_55 (tb_ok ok_86 tnil_ok)) Tryz.func58 (by kernel_rfl) e_58, by kernel_rfl⟩
theorem e_104 (a : PA te [.d .str]) : path_Valid a.1 = evFun Tryz.prog te eqL tnil Tryz.f104 [.d .str] [(.bool, [])] (.s .p (.s .p (.s (.s .p (.lp ⟨[(21, .d (.int .i64))], [], [0, 20], [], [], 10009⟩ ⟨[], [], [], [], [], 10009⟩ true .p)) .p))) a := by kernel_rfl
def c_104 : Con te := conOf te [.d .str] [(.bool, [])] false fun a => path_Valid a.1
theorem ok_104 : Con.OK Tryz.prog te 104 c_104 ∧ bodyB Tryz.prog 104 = true := ⟨conOf_ok eqL_ok tnil_ok Tryz.func104 (by kernel_rfl) e_104, by kernel_rfl⟩
theorem e_135 (a : PA te [.d (.int .i64)]) : filesrv_creatable a.1 = evFun Tryz.prog te eqL tnil Tryz.f135 [.d (.int .i64)] [(.bool, [])] (.p : Pl) a := by kernel_rfl
def c_135 : Con te := conOf te [.d (.int .i64)] [(.bool, [])] false fun a => filesrv_creatable a.1
theorem ok_135 : Con.OK Tryz.prog te 135 c_135 ∧ bodyB Tryz.prog 135 = true := ⟨conOf_ok eqL_ok tnil_ok Tryz.func135 (by kernel_rfl) e_135, by kernel_rfl⟩
theorem e_138 (a : PA te [.d (.int .i64), .d (.int .i64)]) : perm_has a.1 a.2.1 = evFun Tryz.prog te eqL tnil Tryz.f138 [.d (.int .i64), .d (.int .i64)] [(.bool, [])] (.p : Pl) a := by kernel_rfl
def c_138 : Con te := conOf te [.d (.int .i64), .d (.int .i64)] [(.bool, [])] false fun a => perm_has a.1 a.2.1
theorem ok_138 : Con.OK Tryz.prog te 138 c_138 ∧ bodyB Tryz.prog 138 = true := ⟨conOf_ok eqL_ok tnil_ok Tryz.func138 (by kernel_rfl) e_138, by kernel_rfl⟩
theorem e_136 (a : PA te [.d (.int .i64)]) : perm_Open a.1 = evFun Tryz.prog te eqL (tb 138 c_138 tnil) Tryz.f136 [.d (.int .i64)] [(.int .i64, []), (.int .i64, [])] (.s .p (.s .p (.j ⟨[(4, .d (.int .i64))], [], [0], [], [], 4⟩ false .p (.j ⟨[(4, .d (.int .i64))], [], [0], [], [], 4⟩ false .p (.s .p (.s .p (.j ⟨[(5, .d (.int .i64))], [], [], [], [], 3014⟩ false .p .p))))))) a := by kernel_rfl
def c_136 : Con te := conOf te [.d (.int .i64)] [(.int .i64, []), (.int .i64, [])] false fun a => perm_Open a.1
theorem ok_136 : Con.OK Tryz.prog te 136 c_136 ∧ bodyB Tryz.prog 136 = true := ⟨conOf_ok eqL_ok (tb_ok ok_138 tnil_ok) Tryz.func136 (by kernel_rfl) e_136, by kernel_rfl⟩
theorem e_181 (a : PA te [.d (.sl (.st 0)), .d .str]) : user_Find a.1 a.2.1 = evFun Tryz.prog te eqL (tb 43 c_43 tnil) Tryz.f181 [.d (.sl (.st 0)), .d .str] [(.st 0, [none, none, some 9]), (.bool, [])] (.s .p (.s (.s .p (.lp ⟨[(10, .d (.int .i64))], [], [1, 4, 8, 9], [0], [], 6⟩ ⟨[], [], [4], [0], [], 6⟩ true .p)) .p)) a := by kernel_rfl
def c_181 : Con te := conOf te [.d (.sl (.st 0)), .d .str] [(.st 0, [none, none, some 9]), (.bool, [])] false fun a => user_Find a.1 a.2.1
theorem ok_181 : Con.OK Tryz.prog te 181 c_181 ∧ bodyB Tryz.prog 181 = true := ⟨conOf_ok eqL_ok (tb_ok ok_43 tnil_ok) Tryz.func181 (by kernel_rfl) e_181, by kernel_rfl⟩
theorem e_198 (a : PA te [.d (.sl .str), .d .str]) : slices_Index_stringstring a.1 a.2.1 = evFun Tryz.prog te eqL tnil Tryz.f198 [.d (.sl .str), .d .str] [(.int .i64, [])] (.s .p (.s (.s .p (.lp ⟨[(8, .d (.int .i64))], [], [0, 1, 7], [], [], 4⟩ ⟨[], [], [], [], [], 4⟩ true .p)) .p)) a := by kernel_rfl
def c_198 : Con te := conOf te [.d (.sl .str), .d .str] [(.int .i64, [])] false fun a => slices_Index_stringstring a.1 a.2.1
theorem ok_198 : Con.OK Tryz.prog te 198 c_198 ∧ bodyB Tryz.prog 198 = true := ⟨conOf_ok eqL_ok tnil_ok Tryz.func198 (by kernel_rfl) e_198, by kernel_rfl⟩
theorem e_183 (a : PA te [.d (.sl .str), .d .str]) : slices_Contains_stringstring a.1 a.2.1 = evFun Tryz.prog te eqL (tb 198 c_198 tnil) Tryz.f183 [.d (.sl .str), .d .str] [(.bool, [])] (.p : Pl) a := by kernel_rfl
def c_183 : Con te := conOf te [.d (.sl .str), .d .str] [(.bool, [])] false fun a => slices_Contains_stringstring a.1 a.2.1
theorem ok_183 : Con.OK Tryz.prog te 183 c_183 ∧ bodyB Tryz.prog 183 = true := ⟨conOf_ok eqL_ok (tb_ok ok_198 tnil_ok) Tryz.func183 (by kernel_rfl) e_183, by kernel_rfl⟩
theorem e_157 (a : PA te [.d (.sl (.st 0)), .d .str, .d .str]) : user_Member a.1 a.2.1 a.2.2.1 = evFun Tryz.prog te eqL (tb 183 c_183 (tb 181 c_181 tnil)) Tryz.f157 [.d (.sl (.st 0)), .d .str, .d .str] [(.bool, [])] (.p : Pl) a := by kernel_rfl
def c_157 : Con te := conOf te [.d (.sl (.st 0)), .d .str, .d .str] [(.bool, [])] false fun a => user_Member a.1 a.2.1 a.2.2.1
theorem ok_157 : Con.OK Tryz.prog te 157 c_157 ∧ bodyB Tryz.prog 157 = true := ⟨conOf_ok eqL_ok (tb_ok ok_183 (tb_ok ok_181 tnil_ok)) Tryz.func157 (by kernel_rfl) e_157, by kernel_rfl⟩
theorem e_109 (a : PA te [.d (.sl (.st 0)), .d .str, .d .str, .d .str, .d (.int .i64), .d (.int .i64)]) : perm_Allows a.1 a.2.1 a.2.2.1 a.2.2.2.1 a.2.2.2.2.1 a.2.2.2.2.2.1 = evFun Tryz.prog te eqL (tb 157 c_157 tnil) Tryz.f109 [.d (.sl (.st 0)), .d .str, .d .str, .d .str, .d (.int .i64), .d (.int .i64)] [(.bool, [])] (.s .p (.s .p (.s .p (.j ⟨[(13, .d (.int .i64))], [], [1, 2, 4, 5], [], [], 6008⟩ false .p (.j ⟨[(13, .d (.int .i64))], [], [5], [], [], 6008⟩ false .p .p))))) a := by kernel_rfl
def c_109 : Con te := conOf te [.d (.sl (.st 0)), .d .str, .d .str, .d .str, .d (.int .i64), .d (.int .i64)] [(.bool, [])] false fun a => perm_Allows a.1 a.2.1 a.2.2.1 a.2.2.2.1 a.2.2.2.2.1 a.2.2.2.2.2.1
theorem ok_109 : Con.OK Tryz.prog te 109 c_109 ∧ bodyB Tryz.prog 109 = true := ⟨conOf_ok eqL_ok (tb_ok ok_157 tnil_ok) Tryz.func109 (by kernel_rfl) e_109, by kernel_rfl⟩
theorem e_59 (a : PA te [.d (.st 4), .d .str, .d (.st 2), .d (.int .i64)]) : filesrv_may a.1 a.2.1 a.2.2.1 a.2.2.2.1 = evFun Tryz.prog te eqL (tb 109 c_109 tnil) Tryz.f59 [.d (.st 4), .d .str, .d (.st 2), .d (.int .i64)] [(.bool, [])] (.p : Pl) a := by kernel_rfl
def c_59 : Con te := conOf te [.d (.st 4), .d .str, .d (.st 2), .d (.int .i64)] [(.bool, [])] false fun a => filesrv_may a.1 a.2.1 a.2.2.1 a.2.2.2.1
theorem ok_59 : Con.OK Tryz.prog te 59 c_59 ∧ bodyB Tryz.prog 59 = true := ⟨conOf_ok eqL_ok (tb_ok ok_109 tnil_ok) Tryz.func59 (by kernel_rfl) e_59, by kernel_rfl⟩
theorem e_103 (a : PA te [.d (.int .i64)]) : tree_directory a.1 = evFun Tryz.prog te eqL tnil Tryz.f103 [.d (.int .i64)] [(.bool, [])] (.p : Pl) a := by kernel_rfl
def c_103 : Con te := conOf te [.d (.int .i64)] [(.bool, [])] false fun a => tree_directory a.1
theorem ok_103 : Con.OK Tryz.prog te 103 c_103 ∧ bodyB Tryz.prog 103 = true := ⟨conOf_ok eqL_ok tnil_ok Tryz.func103 (by kernel_rfl) e_103, by kernel_rfl⟩
theorem e_110 (a : PA te [.d (.st 3), .d (.int .i64)]) : tree_within a.1 a.2.1 = evFun Tryz.prog te eqL (tb 103 c_103 (tb 54 c_54 tnil)) Tryz.f110 [.d (.st 3), .d (.int .i64)] [(.int .i64, [])] (.p : Pl) a := by kernel_rfl
def c_110 : Con te := conOf te [.d (.st 3), .d (.int .i64)] [(.int .i64, [])] false fun a => tree_within a.1 a.2.1
theorem ok_110 : Con.OK Tryz.prog te 110 c_110 ∧ bodyB Tryz.prog 110 = true := ⟨conOf_ok eqL_ok (tb_ok ok_103 (tb_ok ok_54 tnil_ok)) Tryz.func110 (by kernel_rfl) e_110, by kernel_rfl⟩
theorem e_158 (a : PA te [.d (.st 2), .p (.int .i64), .p .str]) : tree_child_1 a.1 a.2.1 a.2.2.1 = evFun Tryz.prog te eqL tnil Tryz.f158 [.d (.st 2), .p (.int .i64), .p .str] [(.bool, [])] (.p : Pl) a := by kernel_rfl
def c_158 : Con te := conOf te [.d (.st 2), .p (.int .i64), .p .str] [(.bool, [])] false fun a => tree_child_1 a.1 a.2.1 a.2.2.1
theorem ok_158 : Con.OK Tryz.prog te 158 c_158 ∧ bodyB Tryz.prog 158 = true := ⟨conOf_ok eqL_ok tnil_ok Tryz.func158 (by kernel_rfl) e_158, by kernel_rfl⟩
theorem e_111 (a : PA te [.d (.st 3), .d (.int .i64), .d .str]) : tree_child a.1 a.2.1 a.2.2.1 = evFun Tryz.prog te eqL (tb 158 c_158 (tb 154 c_154 tnil)) Tryz.f111 [.d (.st 3), .d (.int .i64), .d .str] [(.int .i64, [])] (.p : Pl) a := by kernel_rfl
def c_111 : Con te := conOf te [.d (.st 3), .d (.int .i64), .d .str] [(.int .i64, [])] false fun a => tree_child a.1 a.2.1 a.2.2.1
theorem ok_111 : Con.OK Tryz.prog te 111 c_111 ∧ bodyB Tryz.prog 111 = true := ⟨conOf_ok eqL_ok (tb_ok ok_158 (tb_ok ok_154 tnil_ok)) Tryz.func111 (by kernel_rfl) e_111, by kernel_rfl⟩
theorem e_60 (a : PA te [.d (.st 3), .d (.int .i64), .d .str]) : tree_Find a.1 a.2.1 a.2.2.1 = evFun Tryz.prog te eqL (tb 111 c_111 (tb 54 c_54 (tb 110 c_110 tnil))) Tryz.f60 [.d (.st 3), .d (.int .i64), .d .str] [(.int .i64, []), (.int .i64, [])] (.p : Pl) a := by kernel_rfl
def c_60 : Con te := conOf te [.d (.st 3), .d (.int .i64), .d .str] [(.int .i64, []), (.int .i64, [])] false fun a => tree_Find a.1 a.2.1 a.2.2.1
theorem ok_60 : Con.OK Tryz.prog te 60 c_60 ∧ bodyB Tryz.prog 60 = true := ⟨conOf_ok eqL_ok (tb_ok ok_111 (tb_ok ok_54 (tb_ok ok_110 tnil_ok))) Tryz.func60 (by kernel_rfl) e_60, by kernel_rfl⟩
theorem e_173 (a : PA te [.d (.sl (.st 1)), .d .str]) : quota_Find a.1 a.2.1 = evFun Tryz.prog te eqL tnil Tryz.f173 [.d (.sl (.st 1)), .d .str] [(.st 1, []), (.bool, [])] (.s .p (.s (.s .p (.lp ⟨[(10, .d (.int .i64))], [], [1, 4, 8, 9], [0], [], 6⟩ ⟨[], [], [4], [0], [], 6⟩ true .p)) .p)) a := by kernel_rfl
def c_173 : Con te := conOf te [.d (.sl (.st 1)), .d .str] [(.st 1, []), (.bool, [])] false fun a => quota_Find a.1 a.2.1
theorem ok_173 : Con.OK Tryz.prog te 173 c_173 ∧ bodyB Tryz.prog 173 = true := ⟨conOf_ok eqL_ok tnil_ok Tryz.func173 (by kernel_rfl) e_173, by kernel_rfl⟩
theorem e_174 (a : PA te [.d (.st 3), .d .str]) : quota_Used a.1 a.2.1 = evFun Tryz.prog te eqL tnil Tryz.f174 [.d (.st 3), .d .str] [(.int .i64, []), (.int .i64, [])] (.s .p (.s .p (.s (.s .p (.lp ⟨[(6, .d (.int .i64)), (7, .d (.int .i64)), (13, .d (.int .i64))], [], [1, 11, 12], [], [], 10⟩ ⟨[(6, .d (.int .i64)), (7, .d (.int .i64))], [], [], [], [], 10⟩ false (.s .p (.s .p (.j ⟨[(6, .d (.int .i64)), (7, .d (.int .i64))], [], [1, 11, 12, 13], [], [], 11⟩ false .p .p))))) .p))) a := by kernel_rfl
def c_174 : Con te := conOf te [.d (.st 3), .d .str] [(.int .i64, []), (.int .i64, [])] false fun a => quota_Used a.1 a.2.1
theorem ok_174 : Con.OK Tryz.prog te 174 c_174 ∧ bodyB Tryz.prog 174 = true := ⟨conOf_ok eqL_ok tnil_ok Tryz.func174 (by kernel_rfl) e_174, by kernel_rfl⟩
theorem e_137 (a : PA te [.d (.sl (.st 1)), .d (.st 3), .d .str, .d (.int .i64), .d (.int .i64)]) : quota_Fits a.1 a.2.1 a.2.2.1 a.2.2.2.1 a.2.2.2.2.1 = evFun Tryz.prog te eqL (tb 174 c_174 (tb 173 c_173 tnil)) Tryz.f137 [.d (.sl (.st 1)), .d (.st 3), .d .str, .d (.int .i64), .d (.int .i64)] [(.bool, [])] (.p : Pl) a := by kernel_rfl
def c_137 : Con te := conOf te [.d (.sl (.st 1)), .d (.st 3), .d .str, .d (.int .i64), .d (.int .i64)] [(.bool, [])] false fun a => quota_Fits a.1 a.2.1 a.2.2.1 a.2.2.2.1 a.2.2.2.2.1
theorem ok_137 : Con.OK Tryz.prog te 137 c_137 ∧ bodyB Tryz.prog 137 = true := ⟨conOf_ok eqL_ok (tb_ok ok_174 (tb_ok ok_173 tnil_ok)) Tryz.func137 (by kernel_rfl) e_137, by kernel_rfl⟩
theorem e_82 (a : PA te [.d (.st 4), .d .str, .d (.st 2), .d .str, .d (.int .i64), .d (.int .i64)]) : filesrv_makes a.1 a.2.1 a.2.2.1 a.2.2.2.1 a.2.2.2.2.1 a.2.2.2.2.2.1 = evFun Tryz.prog te eqL (tb 137 c_137 (tb 60 c_60 (tb 59 c_59 (tb 55 c_55 (tb 136 c_136 (tb 135 c_135 (tb 104 c_104 tnil))))))) Tryz.f82 [.d (.st 4), .d .str, .d (.st 2), .d .str, .d (.int .i64), .d (.int .i64)] [(.int .i64, [])] (.p : Pl) a := by kernel_rfl
def c_82 : Con te := conOf te [.d (.st 4), .d .str, .d (.st 2), .d .str, .d (.int .i64), .d (.int .i64)] [(.int .i64, [])] false fun a => filesrv_makes a.1 a.2.1 a.2.2.1 a.2.2.2.1 a.2.2.2.2.1 a.2.2.2.2.2.1
theorem ok_82 : Con.OK Tryz.prog te 82 c_82 ∧ bodyB Tryz.prog 82 = true := ⟨conOf_ok eqL_ok (tb_ok ok_137 (tb_ok ok_60 (tb_ok ok_59 (tb_ok ok_55 (tb_ok ok_136 (tb_ok ok_135 (tb_ok ok_104 tnil_ok))))))) Tryz.func82 (by kernel_rfl) e_82, by kernel_rfl⟩
theorem e_83 (a : PA te [.d (.int .i64), .d (.int .i64)]) : perm_Inherit a.1 a.2.1 = evFun Tryz.prog te eqL (tb 138 c_138 tnil) Tryz.f83 [.d (.int .i64), .d (.int .i64)] [(.int .i64, [])] (.s .p (.s .p (.s .p (.j ⟨[(5, .d (.int .i64))], [], [0, 1], [], [], 3005⟩ false .p .p)))) a := by kernel_rfl
def c_83 : Con te := conOf te [.d (.int .i64), .d (.int .i64)] [(.int .i64, [])] false fun a => perm_Inherit a.1 a.2.1
theorem ok_83 : Con.OK Tryz.prog te 83 c_83 ∧ bodyB Tryz.prog 83 = true := ⟨conOf_ok eqL_ok (tb_ok ok_138 tnil_ok) Tryz.func83 (by kernel_rfl) e_83, by kernel_rfl⟩
theorem e_139 (a : PA te [.d (.st 3)]) : tree_clone a.1 = evFun Tryz.prog te eqL tnil Tryz.f139 [.d (.st 3)] [(.st 3, [none, some 60])] (.p : Pl) a := by kernel_rfl
def c_139 : Con te := conOf te [.d (.st 3)] [(.st 3, [none, some 60])] false fun a => tree_clone a.1
theorem ok_139 : Con.OK Tryz.prog te 139 c_139 ∧ bodyB Tryz.prog 139 = true := ⟨conOf_ok eqL_ok tnil_ok Tryz.func139 (by kernel_rfl) e_139, by kernel_rfl⟩
theorem e_140 (a : PA te [.d (.int .i64)]) : tree_valid a.1 = evFun Tryz.prog te eqL tnil Tryz.f140 [.d (.int .i64)] [(.bool, [])] (.s .p (.s .p (.s (.s .p (.j ⟨[(9, .d .bool)], [], [], [], [], 7⟩ false .p .p)) .p))) a := by kernel_rfl
def c_140 : Con te := conOf te [.d (.int .i64)] [(.bool, [])] false fun a => tree_valid a.1
theorem ok_140 : Con.OK Tryz.prog te 140 c_140 ∧ bodyB Tryz.prog 140 = true := ⟨conOf_ok eqL_ok tnil_ok Tryz.func140 (by kernel_rfl) e_140, by kernel_rfl⟩
theorem e_141 (a : PA te [.l (.st 3) [none, some 60], .d (.int .i64), .d .str, .d (.int .i64)]) : tree_change a.1 a.2.1 a.2.2.1 a.2.2.2.1 = evFun Tryz.prog te eqL (tb 96 c_96 (tb 97 c_97 tnil)) Tryz.f141 [.l (.st 3) [none, some 60], .d (.int .i64), .d .str, .d (.int .i64)] [] (.s .p (.s .p (.s .p (.j ⟨[], [(0, true, .row 60 (.st 2) [(6, 8)])], [2, 3, 8], [], [6], 18⟩ false .p .p)))) a := by kernel_rfl
def c_141 : Con te := conOf te [.l (.st 3) [none, some 60], .d (.int .i64), .d .str, .d (.int .i64)] [] false fun a => tree_change a.1 a.2.1 a.2.2.1 a.2.2.2.1
theorem ok_141 : Con.OK Tryz.prog te 141 c_141 ∧ bodyB Tryz.prog 141 = true := ⟨conOf_ok eqL_ok (tb_ok ok_96 (tb_ok ok_97 tnil_ok)) Tryz.func141 (by kernel_rfl) e_141, by kernel_rfl⟩
theorem e_84 (a : PA te [.d (.st 3), .d (.int .i64), .d .str, .d (.int .i64), .d .str, .d .str, .d (.int .i64)]) : tree_Create a.1 a.2.1 a.2.2.1 a.2.2.2.1 a.2.2.2.2.1 a.2.2.2.2.2.1 a.2.2.2.2.2.2.1 = evFun Tryz.prog te eqL (tb 96 c_96 (tb 97 c_97 (tb 141 c_141 (tb 105 c_105 (tb 111 c_111 (tb 140 c_140 (tb 104 c_104 (tb 139 c_139 (tb 110 c_110 tnil))))))))) Tryz.f84 [.d (.st 3), .d (.int .i64), .d .str, .d (.int .i64), .d .str, .d .str, .d (.int .i64)] [(.st 3, [none, some 60]), (.int .i64, []), (.int .i64, [])] (.s .p (.s .p (.s .p (.s .p (.s (.dr [0, 0, 0, 0, 0, 0, 2] [] false []) (.s .p (.s (.dr [0, 0, 0, 0, 0, 0, 0, 0, 0, 0, 0, 0, 0, 0, 0, 0, 1, 2, 4, 2] [] false []) (.s .p (.s (.dr [0, 0, 0, 1, 4, 4] [] true [2]) .p))))))))) a := by kernel_rfl
def c_84 : Con te := conOf te [.d (.st 3), .d (.int .i64), .d .str, .d (.int .i64), .d .str, .d .str, .d (.int .i64)] [(.st 3, [none, some 60]), (.int .i64, []), (.int .i64, [])] false fun a => tree_Create a.1 a.2.1 a.2.2.1 a.2.2.2.1 a.2.2.2.2.1 a.2.2.2.2.2.1 a.2.2.2.2.2.2.1
theorem ok_84 : Con.OK Tryz.prog te 84 c_84 ∧ bodyB Tryz.prog 84 = true := ⟨conOf_ok eqL_ok (tb_ok ok_96 (tb_ok ok_97 (tb_ok ok_141 (tb_ok ok_105 (tb_ok ok_111 (tb_ok ok_140 (tb_ok ok_104 (tb_ok ok_139 (tb_ok ok_110 tnil_ok))))))))) Tryz.func84 (by kernel_rfl) e_84, by kernel_rfl⟩
theorem e_190 (a : PA te [.d (.int .i64)]) : cmp_isNaN_int a.1 = evFun Tryz.prog te eqL tnil Tryz.f190 [.d (.int .i64)] [(.bool, [])] (.p : Pl) a := by kernel_rfl
def c_190 : Con te := conOf te [.d (.int .i64)] [(.bool, [])] false fun a => cmp_isNaN_int a.1
theorem ok_190 : Con.OK Tryz.prog te 190 c_190 ∧ bodyB Tryz.prog 190 = true := ⟨conOf_ok eqL_ok tnil_ok Tryz.func190 (by kernel_rfl) e_190, by kernel_rfl⟩
theorem e_175 (a : PA te [.d (.int .i64), .d (.int .i64)]) : cmp_Less_int a.1 a.2.1 = evFun Tryz.prog te eqL (tb 190 c_190 tnil) Tryz.f175 [.d (.int .i64), .d (.int .i64)] [(.bool, [])] (.p : Pl) a := by kernel_rfl
def c_175 : Con te := conOf te [.d (.int .i64), .d (.int .i64)] [(.bool, [])] false fun a => cmp_Less_int a.1 a.2.1
theorem ok_175 : Con.OK Tryz.prog te 175 c_175 ∧ bodyB Tryz.prog 175 = true := ⟨conOf_ok eqL_ok (tb_ok ok_190 tnil_ok) Tryz.func175 (by kernel_rfl) e_175, by kernel_rfl⟩
theorem e_176 (a : PA te [.d (.int .i64)]) : slices_isNaN_int a.1 = evFun Tryz.prog te eqL tnil Tryz.f176 [.d (.int .i64)] [(.bool, [])] (.p : Pl) a := by kernel_rfl
def c_176 : Con te := conOf te [.d (.int .i64)] [(.bool, [])] false fun a => slices_isNaN_int a.1
theorem ok_176 : Con.OK Tryz.prog te 176 c_176 ∧ bodyB Tryz.prog 176 = true := ⟨conOf_ok eqL_ok tnil_ok Tryz.func176 (by kernel_rfl) e_176, by kernel_rfl⟩
theorem e_142 (a : PA te [.d (.sl (.int .i64)), .d (.int .i64)]) : slices_BinarySearch_intint a.1 a.2.1 = evFun Tryz.prog te eqL (tb 176 c_176 (tb 175 c_175 tnil)) Tryz.f142 [.d (.sl (.int .i64)), .d (.int .i64)] [(.int .i64, []), (.bool, [])] (.s .p (.s .p (.s .p (.s (.lp ⟨[(7, .d (.int .i64)), (8, .d (.int .i64))], [], [0, 1, 6], [], [], 8⟩ ⟨[(7, .d (.int .i64))], [], [0, 1, 6], [], [], 8⟩ false .p) .p)))) a := by kernel_rfl
def c_142 : Con te := conOf te [.d (.sl (.int .i64)), .d (.int .i64)] [(.int .i64, []), (.bool, [])] false fun a => slices_BinarySearch_intint a.1 a.2.1
theorem ok_142 : Con.OK Tryz.prog te 142 c_142 ∧ bodyB Tryz.prog 142 = true := ⟨conOf_ok eqL_ok (tb_ok ok_176 (tb_ok ok_175 tnil_ok)) Tryz.func142 (by kernel_rfl) e_142, by kernel_rfl⟩
theorem e_85 (a : PA te [.d (.st 4), .d (.int .i64)]) : filesrv_lock a.1 a.2.1 = evFun Tryz.prog te eqL (tb 143 con_slices_Insert (tb 134 c_134 (tb 142 c_142 tnil))) Tryz.f85 [.d (.st 4), .d (.int .i64)] [(.st 4, [])] (.s .p (.j ⟨[], [(0, true, .cells 30 [.v (.sl (.st 0)), .v (.sl (.st 1)), .v (.int .i64), .v (.sl (.st 2)), .v (.sl (.int .i64))])], [2, 4], [2], [], 4⟩ false .p .p)) a := by kernel_rfl
def c_85 : Con te := conOf te [.d (.st 4), .d (.int .i64)] [(.st 4, [])] true fun a => filesrv_lock a.1 a.2.1
theorem ok_85 : Con.OK Tryz.prog te 85 c_85 ∧ bodyB Tryz.prog 85 = true := ⟨conOf_ok eqL_ok (tb_ok ok_con_slices_Insert (tb_ok ok_134 (tb_ok ok_142 tnil_ok))) Tryz.func85 (by kernel_rfl) e_85, by kernel_rfl⟩
theorem e_32 (a : PA te [.d (.st 4), .d .str, .d (.int .i64), .d .str, .d (.int .i64), .d (.int .i64), .d (.int .i64)]) : filesrv_Create a.1 a.2.1 a.2.2.1 a.2.2.2.1 a.2.2.2.2.1 a.2.2.2.2.2.1 a.2.2.2.2.2.2.1 = evFun Tryz.prog te eqL (tb 85 c_85 (tb 55 c_55 (tb 84 c_84 (tb 42 c_42 (tb 83 c_83 (tb 82 c_82 (tb 58 c_58 (tb 81 c_81 tnil)))))))) Tryz.f32 [.d (.st 4), .d .str, .d (.int .i64), .d .str, .d (.int .i64), .d (.int .i64), .d (.int .i64)] [(.st 4, []), (.int .i64, []), (.int .i64, [])] (.s .p (.s .p (.s .p (.j ⟨[(19, .d (.int .i64))], [], [1, 2, 3, 4, 6, 14, 17, 18], [2, 7, 8, 9, 10, 12, 23], [], 28⟩ false .p (.s .p (.s .p (.s (.df [0, 0, 0, 0, 0, 0, 0, 0, 0, 0, 1, 4, 4, 4, 4, 1, 2, 4, 4] [] 5) (.s .p (.s .p (.j ⟨[], [(12, true, .cells 30 [.v (.sl (.st 0)), .v (.sl (.st 1)), .v (.int .i64), .v (.sl (.st 2)), .v (.sl (.int .i64))])], [14, 17, 22], [2], [], 67⟩ false .p .p)))))))))) a := by kernel_rfl
def c_32 : Con te := conOf te [.d (.st 4), .d .str, .d (.int .i64), .d .str, .d (.int .i64), .d (.int .i64), .d (.int .i64)] [(.st 4, []), (.int .i64, []), (.int .i64, [])] true fun a => filesrv_Create a.1 a.2.1 a.2.2.1 a.2.2.2.1 a.2.2.2.2.1 a.2.2.2.2.2.1 a.2.2.2.2.2.2.1
theorem ok_32 : Con.OK Tryz.prog te 32 c_32 ∧ bodyB Tryz.prog 32 = true := ⟨conOf_ok eqL_ok (tb_ok ok_85 (tb_ok ok_55 (tb_ok ok_84 (tb_ok ok_42 (tb_ok ok_83 (tb_ok ok_82 (tb_ok ok_58 (tb_ok ok_81 tnil_ok)))))))) Tryz.func32 (by kernel_rfl) e_32, by kernel_rfl⟩
theorem e_33 (a : PA te []) : law13_keep = evFun Tryz.prog te eqL tnil Tryz.f33 [] [(.st 6, [])] (.p : Pl) a := by kernel_rfl
def c_33 : Con te := conOf te [] [(.st 6, [])] false fun _ => law13_keep
theorem ok_33 : Con.OK Tryz.prog te 33 c_33 ∧ bodyB Tryz.prog 33 = true := ⟨conOf_ok eqL_ok tnil_ok Tryz.func33 (by kernel_rfl) e_33, by kernel_rfl⟩
theorem e_179 (a : PA te [.d (.st 6)]) : stat_numbers a.1 = evFun Tryz.prog te eqL tnil Tryz.f179 [.d (.st 6)] [(.sl (.st 7), [some 169])] (.p : Pl) a := by kernel_rfl
def c_179 : Con te := conOf te [.d (.st 6)] [(.sl (.st 7), [some 169])] false fun a => stat_numbers a.1
theorem ok_179 : Con.OK Tryz.prog te 179 c_179 ∧ bodyB Tryz.prog 179 = true := ⟨conOf_ok eqL_ok tnil_ok Tryz.func179 (by kernel_rfl) e_179, by kernel_rfl⟩
theorem e_180 (a : PA te [.d (.int .i64), .d (.int .i64)]) : stat_within a.1 a.2.1 = evFun Tryz.prog te eqL tnil Tryz.f180 [.d (.int .i64), .d (.int .i64)] [(.bool, [])] (.p : Pl) a := by kernel_rfl
def c_180 : Con te := conOf te [.d (.int .i64), .d (.int .i64)] [(.bool, [])] false fun a => stat_within a.1 a.2.1
theorem ok_180 : Con.OK Tryz.prog te 180 c_180 ∧ bodyB Tryz.prog 180 = true := ⟨conOf_ok eqL_ok tnil_ok Tryz.func180 (by kernel_rfl) e_180, by kernel_rfl⟩
theorem e_144 (a : PA te [.d (.st 6)]) : stat_Check a.1 = evFun Tryz.prog te eqL (tb 104 c_104 (tb 180 c_180 (tb 179 c_179 tnil))) Tryz.f144 [.d (.st 6)] [(.int .i64, [])] (.s .p (.s (.s .p (.lp ⟨[(8, .d (.int .i64))], [(4, true, .row 169 (.st 7) [])], [1, 6, 7], [0], [], 8⟩ ⟨[], [], [1], [0], [], 8⟩ true .p)) .p)) a := by kernel_rfl
def c_144 : Con te := conOf te [.d (.st 6)] [(.int .i64, [])] false fun a => stat_Check a.1
theorem ok_144 : Con.OK Tryz.prog te 144 c_144 ∧ bodyB Tryz.prog 144 = true := ⟨conOf_ok eqL_ok (tb_ok ok_104 (tb_ok ok_180 (tb_ok ok_179 tnil_ok))) Tryz.func144 (by kernel_rfl) e_144, by kernel_rfl⟩
theorem e_145 (a : PA te []) : stat_None = evFun Tryz.prog te eqL tnil Tryz.f145 [] [(.st 6, [])] (.p : Pl) a := by kernel_rfl
def c_145 : Con te := conOf te [] [(.st 6, [])] false fun _ => stat_None
theorem ok_145 : Con.OK Tryz.prog te 145 c_145 ∧ bodyB Tryz.prog 145 = true := ⟨conOf_ok eqL_ok tnil_ok Tryz.func145 (by kernel_rfl) e_145, by kernel_rfl⟩
theorem e_117 (a : PA te [.d (.st 4), .d .str, .d (.st 2)]) : filesrv_above a.1 a.2.1 a.2.2.1 = evFun Tryz.prog te eqL (tb 59 c_59 (tb 54 c_54 tnil)) Tryz.f117 [.d (.st 4), .d .str, .d (.st 2)] [(.bool, [])] (.p : Pl) a := by kernel_rfl
def c_117 : Con te := conOf te [.d (.st 4), .d .str, .d (.st 2)] [(.bool, [])] false fun a => filesrv_above a.1 a.2.1 a.2.2.1
theorem ok_117 : Con.OK Tryz.prog te 117 c_117 ∧ bodyB Tryz.prog 117 = true := ⟨conOf_ok eqL_ok (tb_ok ok_59 (tb_ok ok_54 tnil_ok)) Tryz.func117 (by kernel_rfl) e_117, by kernel_rfl⟩
theorem e_146 (a : PA te [.d (.st 4), .d .str, .d (.st 2), .d .str]) : filesrv_renames a.1 a.2.1 a.2.2.1 a.2.2.2.1 = evFun Tryz.prog te eqL (tb 60 c_60 (tb 117 c_117 (tb 104 c_104 tnil))) Tryz.f146 [.d (.st 4), .d .str, .d (.st 2), .d .str] [(.int .i64, [])] (.p : Pl) a := by kernel_rfl
def c_146 : Con te := conOf te [.d (.st 4), .d .str, .d (.st 2), .d .str] [(.int .i64, [])] false fun a => filesrv_renames a.1 a.2.1 a.2.2.1 a.2.2.2.1
theorem ok_146 : Con.OK Tryz.prog te 146 c_146 ∧ bodyB Tryz.prog 146 = true := ⟨conOf_ok eqL_ok (tb_ok ok_60 (tb_ok ok_117 (tb_ok ok_104 tnil_ok))) Tryz.func146 (by kernel_rfl) e_146, by kernel_rfl⟩
theorem e_89 (a : PA te [.d (.st 2)]) : filesrv_length a.1 = evFun Tryz.prog te eqL (tb 55 c_55 tnil) Tryz.f89 [.d (.st 2)] [(.int .i64, [])] (.p : Pl) a := by kernel_rfl
def c_89 : Con te := conOf te [.d (.st 2)] [(.int .i64, [])] false fun a => filesrv_length a.1
theorem ok_89 : Con.OK Tryz.prog te 89 c_89 ∧ bodyB Tryz.prog 89 = true := ⟨conOf_ok eqL_ok (tb_ok ok_55 tnil_ok) Tryz.func89 (by kernel_rfl) e_89, by kernel_rfl⟩
theorem e_93 (a : PA te [.d (.st 4), .d (.st 2), .d (.int .i64)]) : filesrv_grows a.1 a.2.1 a.2.2.1 = evFun Tryz.prog te eqL (tb 137 c_137 tnil) Tryz.f93 [.d (.st 4), .d (.st 2), .d (.int .i64)] [(.bool, [])] (.p : Pl) a := by kernel_rfl
def c_93 : Con te := conOf te [.d (.st 4), .d (.st 2), .d (.int .i64)] [(.bool, [])] false fun a => filesrv_grows a.1 a.2.1 a.2.2.1
theorem ok_93 : Con.OK Tryz.prog te 93 c_93 ∧ bodyB Tryz.prog 93 = true := ⟨conOf_ok eqL_ok (tb_ok ok_137 tnil_ok) Tryz.func93 (by kernel_rfl) e_93, by kernel_rfl⟩
theorem e_147 (a : PA te [.d (.st 4), .d .str, .d (.st 2), .d (.int .i64)]) : filesrv_resizes a.1 a.2.1 a.2.2.1 a.2.2.2.1 = evFun Tryz.prog te eqL (tb 93 c_93 (tb 59 c_59 (tb 55 c_55 (tb 89 c_89 tnil)))) Tryz.f147 [.d (.st 4), .d .str, .d (.st 2), .d (.int .i64)] [(.int .i64, [])] (.p : Pl) a := by kernel_rfl
def c_147 : Con te := conOf te [.d (.st 4), .d .str, .d (.st 2), .d (.int .i64)] [(.int .i64, [])] false fun a => filesrv_resizes a.1 a.2.1 a.2.2.1 a.2.2.2.1
theorem ok_147 : Con.OK Tryz.prog te 147 c_147 ∧ bodyB Tryz.prog 147 = true := ⟨conOf_ok eqL_ok (tb_ok ok_93 (tb_ok ok_59 (tb_ok ok_55 (tb_ok ok_89 tnil_ok)))) Tryz.func147 (by kernel_rfl) e_147, by kernel_rfl⟩
theorem e_148 (a : PA te [.d (.sl (.st 0)), .d .str, .d .str]) : user_Leads a.1 a.2.1 a.2.2.1 = evFun Tryz.prog te eqL (tb 157 c_157 (tb 181 c_181 tnil)) Tryz.f148 [.d (.sl (.st 0)), .d .str, .d .str] [(.bool, [])] (.p : Pl) a := by kernel_rfl
def c_148 : Con te := conOf te [.d (.sl (.st 0)), .d .str, .d .str] [(.bool, [])] false fun a => user_Leads a.1 a.2.1 a.2.2.1
theorem ok_148 : Con.OK Tryz.prog te 148 c_148 ∧ bodyB Tryz.prog 148 = true := ⟨conOf_ok eqL_ok (tb_ok ok_157 (tb_ok ok_181 tnil_ok)) Tryz.func148 (by kernel_rfl) e_148, by kernel_rfl⟩
theorem e_149 (a : PA te [.d (.st 4), .d .str, .d (.st 2), .d .str]) : filesrv_regroups a.1 a.2.1 a.2.2.1 a.2.2.2.1 = evFun Tryz.prog te eqL (tb 148 c_148 (tb 157 c_157 tnil)) Tryz.f149 [.d (.st 4), .d .str, .d (.st 2), .d .str] [(.int .i64, [])] (.p : Pl) a := by kernel_rfl
def c_149 : Con te := conOf te [.d (.st 4), .d .str, .d (.st 2), .d .str] [(.int .i64, [])] false fun a => filesrv_regroups a.1 a.2.1 a.2.2.1 a.2.2.2.1
theorem ok_149 : Con.OK Tryz.prog te 149 c_149 ∧ bodyB Tryz.prog 149 = true := ⟨conOf_ok eqL_ok (tb_ok ok_148 (tb_ok ok_157 tnil_ok)) Tryz.func149 (by kernel_rfl) e_149, by kernel_rfl⟩
theorem e_87 (a : PA te [.d (.st 4), .d .str, .d (.st 2), .d (.st 6)]) : filesrv_changes a.1 a.2.1 a.2.2.1 a.2.2.2.1 = evFun Tryz.prog te eqL (tb 149 c_149 (tb 135 c_135 (tb 55 c_55 (tb 148 c_148 (tb 147 c_147 (tb 146 c_146 (tb 145 c_145 (tb 144 c_144 tnil)))))))) Tryz.f87 [.d (.st 4), .d .str, .d (.st 2), .d (.st 6)] [(.int .i64, [])] (.s .p (.s .p (.s .p (.s .p (.s .p (.s .p (.s .p (.j ⟨[], [], [1, 4, 6, 7, 13], [0, 2, 4], [], 33051⟩ true (.s .p (.s (.s .p (.s .p (.s (.dr [0, 0, 0, 0, 0, 0, 0, 0] [] false []) .p))) .p)) .p)))))))) a := by kernel_rfl
def c_87 : Con te := conOf te [.d (.st 4), .d .str, .d (.st 2), .d (.st 6)] [(.int .i64, [])] false fun a => filesrv_changes a.1 a.2.1 a.2.2.1 a.2.2.2.1
theorem ok_87 : Con.OK Tryz.prog te 87 c_87 ∧ bodyB Tryz.prog 87 = true := ⟨conOf_ok eqL_ok (tb_ok ok_149 (tb_ok ok_135 (tb_ok ok_55 (tb_ok ok_148 (tb_ok ok_147 (tb_ok ok_146 (tb_ok ok_145 (tb_ok ok_144 tnil_ok)))))))) Tryz.func87 (by kernel_rfl) e_87, by kernel_rfl⟩
theorem e_88 (a : PA te [.d (.st 3), .d (.int .i64), .d .str, .d .str, .d (.int .i64)]) : tree_Rename a.1 a.2.1 a.2.2.1 a.2.2.2.1 a.2.2.2.2.1 = evFun Tryz.prog te eqL (tb 141 c_141 (tb 111 c_111 (tb 104 c_104 (tb 139 c_139 (tb 105 c_105 tnil))))) Tryz.f88 [.d (.st 3), .d (.int .i64), .d .str, .d .str, .d (.int .i64)] [(.st 3, [none, some 60]), (.int .i64, [])] (.s .p (.s .p (.s (.s .p (.s .p (.s .p (.s .p (.s .p (.s .p (.s .p (.s .p (.s (.dr [0, 0, 0, 0, 0, 0, 0, 0, 0, 0, 0] [] false []) .p))))))))) (.s .p (.s .p (.s (.dr [0, 0, 0, 0, 0, 0, 0, 0, 0, 0, 0, 2] [] false []) .p)))))) a := by kernel_rfl
def c_88 : Con te := conOf te [.d (.st 3), .d (.int .i64), .d .str, .d .str, .d (.int .i64)] [(.st 3, [none, some 60]), (.int .i64, [])] false fun a => tree_Rename a.1 a.2.1 a.2.2.1 a.2.2.2.1 a.2.2.2.2.1
theorem ok_88 : Con.OK Tryz.prog te 88 c_88 ∧ bodyB Tryz.prog 88 = true := ⟨conOf_ok eqL_ok (tb_ok ok_141 (tb_ok ok_111 (tb_ok ok_104 (tb_ok ok_139 (tb_ok ok_105 tnil_ok))))) Tryz.func88 (by kernel_rfl) e_88, by kernel_rfl⟩
theorem e_112 (a : PA te [.d (.st 3), .d (.int .i64)]) : tree_file a.1 a.2.1 = evFun Tryz.prog te eqL (tb 103 c_103 (tb 105 c_105 tnil)) Tryz.f112 [.d (.st 3), .d (.int .i64)] [(.int .i64, []), (.int .i64, [])] (.p : Pl) a := by kernel_rfl
def c_112 : Con te := conOf te [.d (.st 3), .d (.int .i64)] [(.int .i64, []), (.int .i64, [])] false fun a => tree_file a.1 a.2.1
theorem ok_112 : Con.OK Tryz.prog te 112 c_112 ∧ bodyB Tryz.prog 112 = true := ⟨conOf_ok eqL_ok (tb_ok ok_103 (tb_ok ok_105 tnil_ok)) Tryz.func112 (by kernel_rfl) e_112, by kernel_rfl⟩
theorem e_150 (a : PA te [.d .str, .d (.int .i64)]) : tree_fit a.1 a.2.1 = evFun Tryz.prog te eqL (tb 182 con_strings_Repeat tnil) Tryz.f150 [.d .str, .d (.int .i64)] [(.str, [])] (.p : Pl) a := by kernel_rfl
def c_150 : Con te := conOf te [.d .str, .d (.int .i64)] [(.str, [])] false fun a => tree_fit a.1 a.2.1
theorem ok_150 : Con.OK Tryz.prog te 150 c_150 ∧ bodyB Tryz.prog 150 = true := ⟨conOf_ok eqL_ok (tb_ok ok_con_strings_Repeat tnil_ok) Tryz.func150 (by kernel_rfl) e_150, by kernel_rfl⟩
theorem e_90 (a : PA te [.d (.st 3), .d (.int .i64), .d (.int .i64), .d .str, .d (.int .i64)]) : tree_Resize a.1 a.2.1 a.2.2.1 a.2.2.2.1 a.2.2.2.2.1 = evFun Tryz.prog te eqL (tb 141 c_141 (tb 150 c_150 (tb 139 c_139 (tb 112 c_112 tnil)))) Tryz.f90 [.d (.st 3), .d (.int .i64), .d (.int .i64), .d .str, .d (.int .i64)] [(.st 3, [none, some 60]), (.int .i64, [])] (.s .p (.s .p (.s .p (.s .p (.s (.dr [0, 0, 0, 0, 0, 0, 0, 0, 0, 0, 0, 0, 0, 2] [] false []) .p))))) a := by kernel_rfl
def c_90 : Con te := conOf te [.d (.st 3), .d (.int .i64), .d (.int .i64), .d .str, .d (.int .i64)] [(.st 3, [none, some 60]), (.int .i64, [])] false fun a => tree_Resize a.1 a.2.1 a.2.2.1 a.2.2.2.1 a.2.2.2.2.1
theorem ok_90 : Con.OK Tryz.prog te 90 c_90 ∧ bodyB Tryz.prog 90 = true := ⟨conOf_ok eqL_ok (tb_ok ok_141 (tb_ok ok_150 (tb_ok ok_139 (tb_ok ok_112 tnil_ok)))) Tryz.func90 (by kernel_rfl) e_90, by kernel_rfl⟩
theorem e_91 (a : PA te [.d (.st 3), .d (.int .i64), .d (.int .i64), .d .str, .d (.int .i64)]) : tree_Attrs a.1 a.2.1 a.2.2.1 a.2.2.2.1 a.2.2.2.2.1 = evFun Tryz.prog te eqL (tb 96 c_96 (tb 97 c_97 (tb 103 c_103 (tb 140 c_140 (tb 139 c_139 (tb 105 c_105 tnil)))))) Tryz.f91 [.d (.st 3), .d (.int .i64), .d (.int .i64), .d .str, .d (.int .i64)] [(.st 3, [none, some 60]), (.int .i64, [])] (.s .p (.s .p (.s (.s .p (.s .p (.s (.dr [0, 0, 0, 0, 0, 0, 0, 0, 0, 0, 0, 0, 0, 0, 0, 0, 0, 0, 0, 0] [] false []) .p))) (.s .p (.s .p (.j ⟨[], [(21021, true, .row 60 (.st 2) [(21030, 14)])], [3, 4, 10, 13, 14], [2, 21023], [21030], 21033⟩ false .p (.j ⟨[], [(21021, true, .row 60 (.st 2) [(21030, 14)])], [4, 10, 13, 14], [2, 21023], [21030], 21033⟩ false .p (.j ⟨[], [(21021, true, .row 60 (.st 2) [])], [10, 13], [2, 21023], [], 21033⟩ false .p .p)))))))) a := by kernel_rfl
def c_91 : Con te := conOf te [.d (.st 3), .d (.int .i64), .d (.int .i64), .d .str, .d (.int .i64)] [(.st 3, [none, some 60]), (.int .i64, [])] false fun a => tree_Attrs a.1 a.2.1 a.2.2.1 a.2.2.2.1 a.2.2.2.2.1
theorem ok_91 : Con.OK Tryz.prog te 91 c_91 ∧ bodyB Tryz.prog 91 = true := ⟨conOf_ok eqL_ok (tb_ok ok_96 (tb_ok ok_97 (tb_ok ok_103 (tb_ok ok_140 (tb_ok ok_139 (tb_ok ok_105 tnil_ok)))))) Tryz.func91 (by kernel_rfl) e_91, by kernel_rfl⟩
theorem e_92 (a : PA te [.d (.st 4), .d (.int .i64)]) : filesrv_unlock a.1 a.2.1 = evFun Tryz.prog te eqL (tb 151 con_slices_Delete (tb 134 c_134 (tb 142 c_142 tnil))) Tryz.f92 [.d (.st 4), .d (.int .i64)] [(.st 4, [])] (.s .p (.j ⟨[], [(0, true, .cells 30 [.v (.sl (.st 0)), .v (.sl (.st 1)), .v (.int .i64), .v (.sl (.st 2)), .v (.sl (.int .i64))])], [2, 4], [2], [], 4⟩ false .p .p)) a := by kernel_rfl
def c_92 : Con te := conOf te [.d (.st 4), .d (.int .i64)] [(.st 4, [])] true fun a => filesrv_unlock a.1 a.2.1
theorem ok_92 : Con.OK Tryz.prog te 92 c_92 ∧ bodyB Tryz.prog 92 = true := ⟨conOf_ok eqL_ok (tb_ok ok_con_slices_Delete (tb_ok ok_134 (tb_ok ok_142 tnil_ok))) Tryz.func92 (by kernel_rfl) e_92, by kernel_rfl⟩
theorem e_34 (a : PA te [.d (.st 4), .d .str, .d (.int .i64), .d (.st 6), .d (.int .i64)]) : filesrv_Wstat a.1 a.2.1 a.2.2.1 a.2.2.2.1 a.2.2.2.2.1 = evFun Tryz.prog te eqL (tb 92 c_92 (tb 55 c_55 (tb 91 c_91 (tb 90 c_90 (tb 89 c_89 (tb 88 c_88 (tb 42 c_42 (tb 87 c_87 (tb 86 c_86 (tb 81 c_81 tnil)))))))))) Tryz.f34 [.d (.st 4), .d .str, .d (.int .i64), .d (.st 6), .d (.int .i64)] [(.st 4, []), (.int .i64, [])] (.s .p (.s .p (.s .p (.j ⟨[(14, .d (.int .i64))], [], [1, 2, 4, 8, 10, 12, 13], [2, 4, 8, 9, 10, 11, 13, 24], [], 29⟩ false .p (.s .p (.j ⟨[], [(13, true, .cells 30 [.own 8, .own 9, .v (.int .i64), .own 31, .own 11]), (8, true, .row 68 (.st 0) []), (9, true, .row 70 (.st 1) []), (31, false, .row 60 (.st 2) []), (11, true, .row 3 (.int .i64) [])], [1, 2, 4, 8, 10, 12, 13], [2, 4, 24], [], 32⟩ false (.s .p (.s (.dr [0, 0, 0, 0, 0, 0, 0, 0, 1, 4, 4, 4, 4, 2] [] false []) .p)) (.j ⟨[], [(13, true, .cells 30 [.own 8, .own 9, .v (.int .i64), .own 32, .own 11]), (8, true, .row 68 (.st 0) []), (9, true, .row 70 (.st 1) []), (32, false, .row 60 (.st 2) []), (11, true, .row 3 (.int .i64) [])], [2, 8, 10, 12, 13], [2, 4, 24], [], 33⟩ false (.s (.dr [0, 0, 0, 0, 0, 0, 0, 0, 0, 0] [] false []) (.s (.dr [0, 0, 0, 0, 0, 0, 0, 0, 1, 4, 4, 4, 4, 2] [] false []) .p)) (.s .p (.j ⟨[(15, .d .str)], [], [2, 8, 10, 12], [2, 4, 8, 9, 11, 13, 32], [], 36⟩ false .p (.j ⟨[], [(13, true, .cells 30 [.own 8, .own 9, .v (.int .i64), .own 36, .own 11]), (8, true, .row 68 (.st 0) []), (9, true, .row 70 (.st 1) []), (36, false, .row 60 (.st 2) []), (11, true, .row 3 (.int .i64) [])], [2, 8, 10, 12], [2, 4], [], 37⟩ false .p (.j ⟨[], [(13, true, .cells 30 [.v (.sl (.st 0)), .v (.sl (.st 1)), .v (.int .i64), .v (.sl (.st 2)), .v (.sl (.int .i64))])], [10, 12], [4], [], 37⟩ false .p .p))))))))))) a := by kernel_rfl
def c_34 : Con te := conOf te [.d (.st 4), .d .str, .d (.int .i64), .d (.st 6), .d (.int .i64)] [(.st 4, []), (.int .i64, [])] true fun a => filesrv_Wstat a.1 a.2.1 a.2.2.1 a.2.2.2.1 a.2.2.2.2.1
theorem ok_34 : Con.OK Tryz.prog te 34 c_34 ∧ bodyB Tryz.prog 34 = true := ⟨conOf_ok eqL_ok (tb_ok ok_92 (tb_ok ok_55 (tb_ok ok_91 (tb_ok ok_90 (tb_ok ok_89 (tb_ok ok_88 (tb_ok ok_42 (tb_ok ok_87 (tb_ok ok_86 (tb_ok ok_81 tnil_ok)))))))))) Tryz.func34 (by kernel_rfl) e_34, by kernel_rfl⟩
theorem e_152 (a : PA te [.d (.int .i64)]) : tree_appends a.1 = evFun Tryz.prog te eqL tnil Tryz.f152 [.d (.int .i64)] [(.bool, [])] (.p : Pl) a := by kernel_rfl
def c_152 : Con te := conOf te [.d (.int .i64)] [(.bool, [])] false fun a => tree_appends a.1
theorem ok_152 : Con.OK Tryz.prog te 152 c_152 ∧ bodyB Tryz.prog 152 = true := ⟨conOf_ok eqL_ok tnil_ok Tryz.func152 (by kernel_rfl) e_152, by kernel_rfl⟩
theorem e_94 (a : PA te [.d (.st 3), .d (.int .i64), .d (.int .i64), .d .str, .d .str, .d (.int .i64)]) : tree_Write a.1 a.2.1 a.2.2.1 a.2.2.2.1 a.2.2.2.2.1 a.2.2.2.2.2.1 = evFun Tryz.prog te eqL (tb 141 c_141 (tb 150 c_150 (tb 152 c_152 (tb 139 c_139 (tb 112 c_112 tnil))))) Tryz.f94 [.d (.st 3), .d (.int .i64), .d (.int .i64), .d .str, .d .str, .d (.int .i64)] [(.st 3, [none, some 60]), (.int .i64, []), (.int .i64, [])] (.s .p (.s .p (.s .p (.s .p (.s .p (.s .p (.j ⟨[(2, .d (.int .i64))], [], [3, 4, 5, 6, 12, 15, 17], [0, 2], [], 27⟩ false .p (.s .p (.s .p (.s (.dr [0, 0, 0, 0, 0, 0, 0, 0, 0, 0, 0, 0, 0, 0, 0, 0, 0, 0, 0, 0, 2] [] false []) .p)))))))))) a := by kernel_rfl
def c_94 : Con te := conOf te [.d (.st 3), .d (.int .i64), .d (.int .i64), .d .str, .d .str, .d (.int .i64)] [(.st 3, [none, some 60]), (.int .i64, []), (.int .i64, [])] false fun a => tree_Write a.1 a.2.1 a.2.2.1 a.2.2.2.1 a.2.2.2.2.1 a.2.2.2.2.2.1
theorem ok_94 : Con.OK Tryz.prog te 94 c_94 ∧ bodyB Tryz.prog 94 = true := ⟨conOf_ok eqL_ok (tb_ok ok_141 (tb_ok ok_150 (tb_ok ok_152 (tb_ok ok_139 (tb_ok ok_112 tnil_ok))))) Tryz.func94 (by kernel_rfl) e_94, by kernel_rfl⟩
theorem e_35 (a : PA te [.d (.st 4), .d .str, .d (.int .i64), .d (.int .i64), .d .str, .d (.int .i64)]) : filesrv_Write a.1 a.2.1 a.2.2.1 a.2.2.2.1 a.2.2.2.2.1 a.2.2.2.2.2.1 = evFun Tryz.prog te eqL (tb 94 c_94 (tb 42 c_42 (tb 93 c_93 (tb 55 c_55 (tb 86 c_86 (tb 81 c_81 tnil)))))) Tryz.f35 [.d (.st 4), .d .str, .d (.int .i64), .d (.int .i64), .d .str, .d (.int .i64)] [(.st 4, [some 68, some 70, none, some 60, some 3]), (.int .i64, []), (.int .i64, [])] (.s .p (.s .p (.s .p (.s .p (.j ⟨[(3, .d (.int .i64))], [], [1, 2, 4, 5, 6, 12, 15, 16], [0, 2, 7, 8, 9, 10, 12, 23], [], 41⟩ false .p (.s .p (.s .p (.s (.df [0, 0, 0, 0, 0, 0, 0, 0, 1, 4, 4, 4, 4, 1, 2, 4, 4] [] 5) .p)))))))) a := by kernel_rfl
def c_35 : Con te := conOf te [.d (.st 4), .d .str, .d (.int .i64), .d (.int .i64), .d .str, .d (.int .i64)] [(.st 4, [some 68, some 70, none, some 60, some 3]), (.int .i64, []), (.int .i64, [])] true fun a => filesrv_Write a.1 a.2.1 a.2.2.1 a.2.2.2.1 a.2.2.2.2.1 a.2.2.2.2.2.1
theorem ok_35 : Con.OK Tryz.prog te 35 c_35 ∧ bodyB Tryz.prog 35 = true := ⟨conOf_ok eqL_ok (tb_ok ok_94 (tb_ok ok_42 (tb_ok ok_93 (tb_ok ok_55 (tb_ok ok_86 (tb_ok ok_81 tnil_ok)))))) Tryz.func35 (by kernel_rfl) e_35, by kernel_rfl⟩
theorem e_63 (a : PA te [.d (.st 3), .d (.int .i64), .d (.int .i64), .d (.int .i64)]) : tree_Read a.1 a.2.1 a.2.2.1 a.2.2.2.1 = evFun Tryz.prog te eqL (tb 112 c_112 tnil) Tryz.f63 [.d (.st 3), .d (.int .i64), .d (.int .i64), .d (.int .i64)] [(.str, []), (.int .i64, [])] (.p : Pl) a := by kernel_rfl
def c_63 : Con te := conOf te [.d (.st 3), .d (.int .i64), .d (.int .i64), .d (.int .i64)] [(.str, []), (.int .i64, [])] false fun a => tree_Read a.1 a.2.1 a.2.2.1 a.2.2.2.1
theorem ok_63 : Con.OK Tryz.prog te 63 c_63 ∧ bodyB Tryz.prog 63 = true := ⟨conOf_ok eqL_ok (tb_ok ok_112 tnil_ok) Tryz.func63 (by kernel_rfl) e_63, by kernel_rfl⟩
theorem e_19 (a : PA te [.d (.st 4), .d (.int .i64), .d (.int .i64), .d (.int .i64)]) : filesrv_Read a.1 a.2.1 a.2.2.1 a.2.2.2.1 = evFun Tryz.prog te eqL (tb 63 c_63 tnil) Tryz.f19 [.d (.st 4), .d (.int .i64), .d (.int .i64), .d (.int .i64)] [(.str, []), (.int .i64, [])] (.p : Pl) a := by kernel_rfl
def c_19 : Con te := conOf te [.d (.st 4), .d (.int .i64), .d (.int .i64), .d (.int .i64)] [(.str, []), (.int .i64, [])] false fun a => filesrv_Read a.1 a.2.1 a.2.2.1 a.2.2.2.1
theorem ok_19 : Con.OK Tryz.prog te 19 c_19 ∧ bodyB Tryz.prog 19 = true := ⟨conOf_ok eqL_ok (tb_ok ok_63 tnil_ok) Tryz.func19 (by kernel_rfl) e_19, by kernel_rfl⟩
theorem e_11 (a : PA te []) : law13_awake = evFun Tryz.prog te eqL (tb 19 c_19 (tb 35 c_35 (tb 34 c_34 (tb 33 c_33 (tb 32 c_32 (tb 12 c_12 tnil)))))) Tryz.f11 [] [(.bool, [])] (.p : Pl) a := by kernel_rfl
def c_11 : Con te := conOf te [] [(.bool, [])] false fun _ => law13_awake
theorem ok_11 : Con.OK Tryz.prog te 11 c_11 ∧ bodyB Tryz.prog 11 = true := ⟨conOf_ok eqL_ok (tb_ok ok_19 (tb_ok ok_35 (tb_ok ok_34 (tb_ok ok_33 (tb_ok ok_32 (tb_ok ok_12 tnil_ok)))))) Tryz.func11 (by kernel_rfl) e_11, by kernel_rfl⟩
theorem e_46 (a : PA te [.d .str]) : ref05_Valid a.1 = evFun Tryz.prog te eqL tnil Tryz.f46 [.d .str] [(.bool, [])] (.s .p (.s .p (.s (.s .p (.lp ⟨[(3, .d (.int .i64))], [], [0], [], [], 4006⟩ ⟨[], [], [], [], [], 4006⟩ true .p)) .p))) a := by kernel_rfl
def c_46 : Con te := conOf te [.d .str] [(.bool, [])] false fun a => ref05_Valid a.1
theorem ok_46 : Con.OK Tryz.prog te 46 c_46 ∧ bodyB Tryz.prog 46 = true := ⟨conOf_ok eqL_ok tnil_ok Tryz.func46 (by kernel_rfl) e_46, by kernel_rfl⟩
theorem e_153 (a : PA te [.d (.sl (.st 0)), .d .str]) : ref05_at a.1 a.2.1 = evFun Tryz.prog te eqL tnil Tryz.f153 [.d (.sl (.st 0)), .d .str] [(.int .i64, [])] (.s .p (.s (.s .p (.lp ⟨[(8, .d (.int .i64))], [], [0, 1, 7], [], [], 4⟩ ⟨[], [], [], [], [], 4⟩ true .p)) .p)) a := by kernel_rfl
def c_153 : Con te := conOf te [.d (.sl (.st 0)), .d .str] [(.int .i64, [])] false fun a => ref05_at a.1 a.2.1
theorem ok_153 : Con.OK Tryz.prog te 153 c_153 ∧ bodyB Tryz.prog 153 = true := ⟨conOf_ok eqL_ok tnil_ok Tryz.func153 (by kernel_rfl) e_153, by kernel_rfl⟩
theorem e_98 (a : PA te [.d (.sl (.st 0)), .d (.int .i64)]) : ref05_checkOne a.1 a.2.1 = evFun Tryz.prog te eqL (tb 153 c_153 (tb 46 c_46 tnil)) Tryz.f98 [.d (.sl (.st 0)), .d (.int .i64)] [(.int .i64, [])] (.s .p (.s .p (.s .p (.s (.s .p (.lp ⟨[(37, .d (.int .i64))], [], [0, 5, 36], [5], [], 6030⟩ ⟨[], [], [], [], [], 6030⟩ true (.s .p (.s .p (.s (.s .p (.s (.dr [0, 0, 0, 0, 0, 0, 0, 0, 0, 0, 0, 0, 0, 0, 0, 0, 0, 0, 0, 0, 0, 0, 0, 0, 0, 0] [] false []) .p)) .p))))) .p)))) a := by kernel_rfl
def c_98 : Con te := conOf te [.d (.sl (.st 0)), .d (.int .i64)] [(.int .i64, [])] false fun a => ref05_checkOne a.1 a.2.1
theorem ok_98 : Con.OK Tryz.prog te 98 c_98 ∧ bodyB Tryz.prog 98 = true := ⟨conOf_ok eqL_ok (tb_ok ok_153 (tb_ok ok_46 tnil_ok)) Tryz.func98 (by kernel_rfl) e_98, by kernel_rfl⟩
theorem e_44 (a : PA te [.d (.sl (.st 0))]) : ref05_Check a.1 = evFun Tryz.prog te eqL (tb 98 c_98 tnil) Tryz.f44 [.d (.sl (.st 0))] [(.int .i64, [])] (.s .p (.s .p (.s (.s .p (.lp ⟨[(10, .d (.int .i64))], [], [0, 9], [], [], 7⟩ ⟨[], [], [], [], [], 7⟩ true .p)) .p))) a := by kernel_rfl
def c_44 : Con te := conOf te [.d (.sl (.st 0))] [(.int .i64, [])] false fun a => ref05_Check a.1
theorem ok_44 : Con.OK Tryz.prog te 44 c_44 ∧ bodyB Tryz.prog 44 = true := ⟨conOf_ok eqL_ok (tb_ok ok_98 tnil_ok) Tryz.func44 (by kernel_rfl) e_44, by kernel_rfl⟩
theorem e_45 (a : PA te [.d (.sl (.st 1))]) : ref12_Check a.1 = evFun Tryz.prog te eqL (tb 46 c_46 tnil) Tryz.f45 [.d (.sl (.st 1))] [(.int .i64, [])] (.s .p (.s .p (.s (.s .p (.lp ⟨[(3, .d (.int .i64))], [], [0], [], [], 5⟩ ⟨[], [], [], [], [], 5⟩ true (.s .p (.s (.s .p (.s .p (.s (.s (.dr [0, 0, 0, 0, 0, 0, 0, 0, 0, 0, 0, 0, 0] [] false []) .p) .p))) .p)))) .p))) a := by kernel_rfl
def c_45 : Con te := conOf te [.d (.sl (.st 1))] [(.int .i64, [])] false fun a => ref12_Check a.1
theorem ok_45 : Con.OK Tryz.prog te 45 c_45 ∧ bodyB Tryz.prog 45 = true := ⟨conOf_ok eqL_ok (tb_ok ok_46 tnil_ok) Tryz.func45 (by kernel_rfl) e_45, by kernel_rfl⟩
end
end Go.Proofs.YtebcipkdnlfboaaGreat
namespace Go.Proofs.YtebcipkdnlfboaaGreat
open Go.Rt Go.RowKit
noncomputable section
theorem e_156 (a : PA te [.d (.int .i64)]) : ref10_Mode a.1 = evFun Tryz.prog te eqL tnil Tryz.f156 [.d (.int .i64)] [(.bool, [])] (.p : Pl) a := by kernel_rfl
def c_156 : Con te := conOf te [.d (.int .i64)] [(.bool, [])] false fun a => ref10_Mode a.1
theorem ok_156 : Con.OK Tryz.prog te 156 c_156 ∧ bodyB Tryz.prog 156 = true := ⟨conOf_ok eqL_ok tnil_ok Tryz.func156 (by kernel_rfl) e_156, by kernel_rfl⟩
theorem e_108 (a : PA te [.d (.int .i64)]) : ref10_IsDir a.1 = evFun Tryz.prog te eqL tnil Tryz.f108 [.d (.int .i64)] [(.bool, [])] (.p : Pl) a := by kernel_rfl
def c_108 : Con te := conOf te [.d (.int .i64)] [(.bool, [])] false fun a => ref10_IsDir a.1
theorem ok_108 : Con.OK Tryz.prog te 108 c_108 ∧ bodyB Tryz.prog 108 = true := ⟨conOf_ok eqL_ok tnil_ok Tryz.func108 (by kernel_rfl) e_108, by kernel_rfl⟩
theorem e_106 (a : PA te [.d (.st 2)]) : ref10_fields a.1 = evFun Tryz.prog te eqL (tb 108 c_108 (tb 156 c_156 tnil)) Tryz.f106 [.d (.st 2)] [(.bool, [])] (.p : Pl) a := by kernel_rfl
def c_106 : Con te := conOf te [.d (.st 2)] [(.bool, [])] false fun a => ref10_fields a.1
theorem ok_106 : Con.OK Tryz.prog te 106 c_106 ∧ bodyB Tryz.prog 106 = true := ⟨conOf_ok eqL_ok (tb_ok ok_108 (tb_ok ok_156 tnil_ok)) Tryz.func106 (by kernel_rfl) e_106, by kernel_rfl⟩
theorem e_107 (a : PA te [.d .str]) : ref03_Valid a.1 = evFun Tryz.prog te eqL tnil Tryz.f107 [.d .str] [(.bool, [])] (.s .p (.s (.s .p (.lp ⟨[(3, .d (.int .i64))], [], [0], [], [], 2⟩ ⟨[], [], [0], [], [], 2⟩ true .p)) .p)) a := by kernel_rfl
def c_107 : Con te := conOf te [.d .str] [(.bool, [])] false fun a => ref03_Valid a.1
theorem ok_107 : Con.OK Tryz.prog te 107 c_107 ∧ bodyB Tryz.prog 107 = true := ⟨conOf_ok eqL_ok tnil_ok Tryz.func107 (by kernel_rfl) e_107, by kernel_rfl⟩
theorem e_56 (a : PA te [.d (.st 3)]) : ref10_Right a.1 = evFun Tryz.prog te eqL (tb 108 c_108 (tb 107 c_107 (tb 106 c_106 tnil))) Tryz.f56 [.d (.st 3)] [(.bool, [])] (.s .p (.s .p (.s .p (.s (.s (.dr [0, 0, 0, 0, 0, 0, 0, 0, 0, 0, 0, 0, 0, 0, 0] [] false []) .p) (.s (.s .p (.lp ⟨[(4, .d (.int .i64))], [], [3], [], [], 38027⟩ ⟨[], [], [], [], [], 38027⟩ true (.s .p (.s (.s (.s (.dr [0, 0, 0, 0, 0, 0, 0, 0, 0, 0, 0, 0, 0, 0, 0, 0, 0, 0, 0, 0, 0, 0, 0, 0, 0, 0, 0, 0, 0, 0, 0, 0, 0, 0, 0, 0, 0, 0, 0, 0, 0, 0] [] false []) .p) (.s .p (.s (.s .p (.lp ⟨[(5, .d .bool), (6, .d (.int .i64))], [], [3, 4], [], [], 65048⟩ ⟨[(5, .d .bool)], [], [3, 4], [], [], 65048⟩ true (.s .p (.s (.s (.dr [0, 0, 0, 0, 0, 0, 0, 0, 0, 0, 0, 0, 0, 0, 0, 0, 0, 0, 0, 0, 0, 0, 0] [] false []) (.s (.dr [0, 0, 0, 0, 0, 0, 0, 0, 0, 0, 0, 0, 0, 0, 0, 0, 0, 0, 0, 0, 0, 0, 0, 0, 0, 0, 0, 0] [] false []) .p)) .p)))) .p))) .p)))) .p))))) a := by kernel_rfl
def c_56 : Con te := conOf te [.d (.st 3)] [(.bool, [])] false fun a => ref10_Right a.1
theorem ok_56 : Con.OK Tryz.prog te 56 c_56 ∧ bodyB Tryz.prog 56 = true := ⟨conOf_ok eqL_ok (tb_ok ok_108 (tb_ok ok_107 (tb_ok ok_106 tnil_ok))) Tryz.func56 (by kernel_rfl) e_56, by kernel_rfl⟩
theorem e_77 (a : PA te [.d (.st 3), .d (.int .i64)]) : ref10_Index a.1 a.2.1 = evFun Tryz.prog te eqL tnil Tryz.f77 [.d (.st 3), .d (.int .i64)] [(.int .i64, [])] (.s .p (.s (.s .p (.lp ⟨[(5, .d (.int .i64))], [], [1, 2], [0], [], 4⟩ ⟨[], [], [], [], [], 4⟩ true .p)) .p)) a := by kernel_rfl
def c_77 : Con te := conOf te [.d (.st 3), .d (.int .i64)] [(.int .i64, [])] false fun a => ref10_Index a.1 a.2.1
theorem ok_77 : Con.OK Tryz.prog te 77 c_77 ∧ bodyB Tryz.prog 77 = true := ⟨conOf_ok eqL_ok tnil_ok Tryz.func77 (by kernel_rfl) e_77, by kernel_rfl⟩
theorem e_29 (a : PA te [.d (.st 3), .d (.int .i64)]) : ref10_Node a.1 a.2.1 = evFun Tryz.prog te eqL (tb 77 c_77 tnil) Tryz.f29 [.d (.st 3), .d (.int .i64)] [(.st 2, []), (.bool, [])] (.p : Pl) a := by kernel_rfl
def c_29 : Con te := conOf te [.d (.st 3), .d (.int .i64)] [(.st 2, []), (.bool, [])] false fun a => ref10_Node a.1 a.2.1
theorem ok_29 : Con.OK Tryz.prog te 29 c_29 ∧ bodyB Tryz.prog 29 = true := ⟨conOf_ok eqL_ok (tb_ok ok_77 tnil_ok) Tryz.func29 (by kernel_rfl) e_29, by kernel_rfl⟩
theorem e_57 (a : PA te [.d (.int .i64), .d (.int .i64)]) : ref13_has a.1 a.2.1 = evFun Tryz.prog te eqL tnil Tryz.f57 [.d (.int .i64), .d (.int .i64)] [(.bool, [])] (.p : Pl) a := by kernel_rfl
def c_57 : Con te := conOf te [.d (.int .i64), .d (.int .i64)] [(.bool, [])] false fun a => ref13_has a.1 a.2.1
theorem ok_57 : Con.OK Tryz.prog te 57 c_57 ∧ bodyB Tryz.prog 57 = true := ⟨conOf_ok eqL_ok tnil_ok Tryz.func57 (by kernel_rfl) e_57, by kernel_rfl⟩
theorem e_16 (a : PA te [.d (.st 4)]) : ref13_Right a.1 = evFun Tryz.prog te eqL (tb 57 c_57 (tb 29 c_29 (tb 56 c_56 (tb 45 c_45 (tb 44 c_44 tnil))))) Tryz.f16 [.d (.st 4)] [(.bool, [])] (.s .p (.s .p (.s (.s .p (.lp ⟨[(25, .d (.int .i64))], [], [1, 24], [0], [], 10013⟩ ⟨[], [], [], [], [], 10013⟩ true (.s .p (.s .p (.s (.s .p (.s (.dr [0, 0, 0, 0, 0, 0, 0, 0, 0, 0, 4, 1, 2, 4] [10] false []) (.s (.dr [0, 0, 0, 0, 0, 0, 0, 0, 0, 0, 0, 0, 0, 0, 0, 0, 0, 0, 0, 0, 0, 0, 0, 0, 0, 0] [] false []) .p))) .p))))) .p))) a := by kernel_rfl
def c_16 : Con te := conOf te [.d (.st 4)] [(.bool, [])] false fun a => ref13_Right a.1
theorem ok_16 : Con.OK Tryz.prog te 16 c_16 ∧ bodyB Tryz.prog 16 = true := ⟨conOf_ok eqL_ok (tb_ok ok_57 (tb_ok ok_29 (tb_ok ok_56 (tb_ok ok_45 (tb_ok ok_44 tnil_ok))))) Tryz.func16 (by kernel_rfl) e_16, by kernel_rfl⟩
theorem e_78 (a : PA te [.d (.int .i64), .d (.int .i64)]) : ref06_Bit a.1 a.2.1 = evFun Tryz.prog te eqL tnil Tryz.f78 [.d (.int .i64), .d (.int .i64)] [(.bool, [])] (.p : Pl) a := by kernel_rfl
def c_78 : Con te := conOf te [.d (.int .i64), .d (.int .i64)] [(.bool, [])] false fun a => ref06_Bit a.1 a.2.1
theorem ok_78 : Con.OK Tryz.prog te 78 c_78 ∧ bodyB Tryz.prog 78 = true := ⟨conOf_ok eqL_ok tnil_ok Tryz.func78 (by kernel_rfl) e_78, by kernel_rfl⟩
theorem e_132 (a : PA te [.d (.sl (.st 0)), .d .str]) : ref05_Find a.1 a.2.1 = evFun Tryz.prog te eqL (tb 153 c_153 tnil) Tryz.f132 [.d (.sl (.st 0)), .d .str] [(.st 0, []), (.bool, [])] (.p : Pl) a := by kernel_rfl
def c_132 : Con te := conOf te [.d (.sl (.st 0)), .d .str] [(.st 0, []), (.bool, [])] true fun a => ref05_Find a.1 a.2.1
theorem ok_132 : Con.OK Tryz.prog te 132 c_132 ∧ bodyB Tryz.prog 132 = true := ⟨conOf_ok eqL_ok (tb_ok ok_153 tnil_ok) Tryz.func132 (by kernel_rfl) e_132, by kernel_rfl⟩
theorem e_79 (a : PA te [.d (.sl (.st 0)), .d .str, .d .str]) : ref05_Member a.1 a.2.1 a.2.2.1 = evFun Tryz.prog te eqL (tb 132 c_132 tnil) Tryz.f79 [.d (.sl (.st 0)), .d .str, .d .str] [(.bool, [])] (.s .p (.s .p (.s .p (.s (.s .p (.lp ⟨[(22, .d (.int .i64))], [], [1, 7, 21], [10], [], 19⟩ ⟨[], [], [], [], [], 19⟩ true .p)) .p)))) a := by kernel_rfl
def c_79 : Con te := conOf te [.d (.sl (.st 0)), .d .str, .d .str] [(.bool, [])] false fun a => ref05_Member a.1 a.2.1 a.2.2.1
theorem ok_79 : Con.OK Tryz.prog te 79 c_79 ∧ bodyB Tryz.prog 79 = true := ⟨conOf_ok eqL_ok (tb_ok ok_132 tnil_ok) Tryz.func79 (by kernel_rfl) e_79, by kernel_rfl⟩
theorem e_30 (a : PA te [.d (.sl (.st 0)), .d .str, .d .str, .d .str, .d (.int .i64), .d (.int .i64)]) : ref06_Allows a.1 a.2.1 a.2.2.1 a.2.2.2.1 a.2.2.2.2.1 a.2.2.2.2.2.1 = evFun Tryz.prog te eqL (tb 79 c_79 (tb 78 c_78 tnil)) Tryz.f30 [.d (.sl (.st 0)), .d .str, .d .str, .d .str, .d (.int .i64), .d (.int .i64)] [(.bool, [])] (.s .p (.s .p (.s (.s .p (.lp ⟨[(13, .d (.int .i64))], [], [0, 1, 2, 3, 4, 5], [], [], 6006⟩ ⟨[], [], [], [], [], 6006⟩ true .p)) .p))) a := by kernel_rfl
def c_30 : Con te := conOf te [.d (.sl (.st 0)), .d .str, .d .str, .d .str, .d (.int .i64), .d (.int .i64)] [(.bool, [])] false fun a => ref06_Allows a.1 a.2.1 a.2.2.1 a.2.2.2.1 a.2.2.2.2.1 a.2.2.2.2.2.1
theorem ok_30 : Con.OK Tryz.prog te 30 c_30 ∧ bodyB Tryz.prog 30 = true := ⟨conOf_ok eqL_ok (tb_ok ok_79 (tb_ok ok_78 tnil_ok)) Tryz.func30 (by kernel_rfl) e_30, by kernel_rfl⟩
theorem e_66 (a : PA te [.d (.st 3), .d (.int .i64)]) : tree_Children a.1 a.2.1 = evFun Tryz.prog te eqL (tb 110 c_110 tnil) Tryz.f66 [.d (.st 3), .d (.int .i64)] [(.sl (.int .i64), [some 3])] (.s .p (.s .p (.s .p (.s (.s .p (.lp ⟨[(5, .one (.own 12)), (15, .d (.int .i64))], [(12, false, .row 3 (.int .i64) [])], [1, 13, 14], [], [], 13⟩ ⟨[(5, .one (.own 12))], [(12, false, .row 3 (.int .i64) [])], [], [], [], 13⟩ false (.s .p (.s .p (.j ⟨[(5, .one (.own 14))], [(14, false, .row 3 (.int .i64) [])], [1, 13, 14, 15], [], [], 15⟩ false .p .p))))) .p)))) a := by kernel_rfl
def c_66 : Con te := conOf te [.d (.st 3), .d (.int .i64)] [(.sl (.int .i64), [some 3])] false fun a => tree_Children a.1 a.2.1
theorem ok_66 : Con.OK Tryz.prog te 66 c_66 ∧ bodyB Tryz.prog 66 = true := ⟨conOf_ok eqL_ok (tb_ok ok_110 tnil_ok) Tryz.func66 (by kernel_rfl) e_66, by kernel_rfl⟩
theorem e_26 (a : PA te [.d (.st 9)]) : law13_light a.1 = evFun Tryz.prog te eqL tnil Tryz.f26 [.d (.st 9)] [(.bool, [])] (.p : Pl) a := by kernel_rfl
def c_26 : Con te := conOf te [.d (.st 9)] [(.bool, [])] false fun a => law13_light a.1
theorem ok_26 : Con.OK Tryz.prog te 26 c_26 ∧ bodyB Tryz.prog 26 = true := ⟨conOf_ok eqL_ok tnil_ok Tryz.func26 (by kernel_rfl) e_26, by kernel_rfl⟩
theorem e_184 (a : PA te [.d (.sl (.int .i64)), .d (.int .i64)]) : slices_Index_intint a.1 a.2.1 = evFun Tryz.prog te eqL tnil Tryz.f184 [.d (.sl (.int .i64)), .d (.int .i64)] [(.int .i64, [])] (.s .p (.s (.s .p (.lp ⟨[(8, .d (.int .i64))], [], [0, 1, 7], [], [], 4⟩ ⟨[], [], [], [], [], 4⟩ true .p)) .p)) a := by kernel_rfl
def c_184 : Con te := conOf te [.d (.sl (.int .i64)), .d (.int .i64)] [(.int .i64, [])] false fun a => slices_Index_intint a.1 a.2.1
theorem ok_184 : Con.OK Tryz.prog te 184 c_184 ∧ bodyB Tryz.prog 184 = true := ⟨conOf_ok eqL_ok tnil_ok Tryz.func184 (by kernel_rfl) e_184, by kernel_rfl⟩
theorem e_159 (a : PA te [.d (.sl (.int .i64)), .d (.int .i64)]) : slices_Contains_intint a.1 a.2.1 = evFun Tryz.prog te eqL (tb 184 c_184 tnil) Tryz.f159 [.d (.sl (.int .i64)), .d (.int .i64)] [(.bool, [])] (.p : Pl) a := by kernel_rfl
def c_159 : Con te := conOf te [.d (.sl (.int .i64)), .d (.int .i64)] [(.bool, [])] false fun a => slices_Contains_intint a.1 a.2.1
theorem ok_159 : Con.OK Tryz.prog te 159 c_159 ∧ bodyB Tryz.prog 159 = true := ⟨conOf_ok eqL_ok (tb_ok ok_184 tnil_ok) Tryz.func159 (by kernel_rfl) e_159, by kernel_rfl⟩
theorem e_116 (a : PA te [.d (.st 4), .d .str, .d (.st 2), .d (.int .i64)]) : filesrv_opens a.1 a.2.1 a.2.2.1 a.2.2.2.1 = evFun Tryz.prog te eqL (tb 159 c_159 (tb 117 c_117 (tb 59 c_59 (tb 55 c_55 (tb 136 c_136 tnil))))) Tryz.f116 [.d (.st 4), .d .str, .d (.st 2), .d (.int .i64)] [(.int .i64, [])] (.p : Pl) a := by kernel_rfl
def c_116 : Con te := conOf te [.d (.st 4), .d .str, .d (.st 2), .d (.int .i64)] [(.int .i64, [])] false fun a => filesrv_opens a.1 a.2.1 a.2.2.1 a.2.2.2.1
theorem ok_116 : Con.OK Tryz.prog te 116 c_116 ∧ bodyB Tryz.prog 116 = true := ⟨conOf_ok eqL_ok (tb_ok ok_159 (tb_ok ok_117 (tb_ok ok_59 (tb_ok ok_55 (tb_ok ok_136 tnil_ok))))) Tryz.func116 (by kernel_rfl) e_116, by kernel_rfl⟩
theorem e_68 (a : PA te [.d (.st 4), .d .str, .d (.int .i64), .d (.int .i64), .d (.int .i64)]) : filesrv_Open a.1 a.2.1 a.2.2.1 a.2.2.2.1 a.2.2.2.2.1 = evFun Tryz.prog te eqL (tb 85 c_85 (tb 90 c_90 (tb 42 c_42 (tb 55 c_55 (tb 116 c_116 (tb 86 c_86 (tb 81 c_81 tnil))))))) Tryz.f68 [.d (.st 4), .d .str, .d (.int .i64), .d (.int .i64), .d (.int .i64)] [(.st 4, []), (.int .i64, [])] (.s .p (.s .p (.s .p (.s .p (.s .p (.j ⟨[], [(11, true, .cells 30 [.own 6, .own 7, .v (.int .i64), .own 37, .own 9]), (6, true, .row 68 (.st 0) []), (7, true, .row 70 (.st 1) []), (37, false, .row 60 (.st 2) []), (9, true, .row 3 (.int .i64) [])], [2, 10, 12, 13], [2, 22], [], 38⟩ false (.s .p (.s (.dr [0, 0, 0, 0, 0, 0, 1, 4, 4, 4, 4, 2] [] false []) .p)) (.j ⟨[], [(11, true, .cells 30 [.v (.sl (.st 0)), .v (.sl (.st 1)), .v (.int .i64), .v (.sl (.st 2)), .v (.sl (.int .i64))])], [10, 12], [2], [], 38⟩ false .p .p))))))) a := by kernel_rfl
def c_68 : Con te := conOf te [.d (.st 4), .d .str, .d (.int .i64), .d (.int .i64), .d (.int .i64)] [(.st 4, []), (.int .i64, [])] true fun a => filesrv_Open a.1 a.2.1 a.2.2.1 a.2.2.2.1 a.2.2.2.2.1
theorem ok_68 : Con.OK Tryz.prog te 68 c_68 ∧ bodyB Tryz.prog 68 = true := ⟨conOf_ok eqL_ok (tb_ok ok_85 (tb_ok ok_90 (tb_ok ok_42 (tb_ok ok_55 (tb_ok ok_116 (tb_ok ok_86 (tb_ok ok_81 tnil_ok))))))) Tryz.func68 (by kernel_rfl) e_68, by kernel_rfl⟩
theorem e_118 (a : PA te [.d (.st 3), .d (.int .i64), .d .str, .d (.int .i64)]) : tree_Remove a.1 a.2.1 a.2.2.1 a.2.2.2.1 = evFun Tryz.prog te eqL (tb 141 c_141 (tb 66 c_66 (tb 139 c_139 (tb 105 c_105 tnil)))) Tryz.f118 [.d (.st 3), .d (.int .i64), .d .str, .d (.int .i64)] [(.st 3, [none, some 60]), (.int .i64, [])] (.s .p (.s .p (.s .p (.s .p (.s (.dr [0, 0, 0, 0, 0, 0, 0, 0, 0, 0, 0, 2] [] false []) (.s (.dr [0, 0, 0, 0, 0, 0, 0, 0, 0, 2, 4, 2] [] false []) .p)))))) a := by kernel_rfl
def c_118 : Con te := conOf te [.d (.st 3), .d (.int .i64), .d .str, .d (.int .i64)] [(.st 3, [none, some 60]), (.int .i64, [])] false fun a => tree_Remove a.1 a.2.1 a.2.2.1 a.2.2.2.1
theorem ok_118 : Con.OK Tryz.prog te 118 c_118 ∧ bodyB Tryz.prog 118 = true := ⟨conOf_ok eqL_ok (tb_ok ok_141 (tb_ok ok_66 (tb_ok ok_139 (tb_ok ok_105 tnil_ok)))) Tryz.func118 (by kernel_rfl) e_118, by kernel_rfl⟩
theorem e_70 (a : PA te [.d (.st 4), .d .str, .d (.int .i64), .d (.int .i64)]) : filesrv_Remove a.1 a.2.1 a.2.2.1 a.2.2.2.1 = evFun Tryz.prog te eqL (tb 92 c_92 (tb 118 c_118 (tb 42 c_42 (tb 117 c_117 (tb 86 c_86 (tb 81 c_81 tnil)))))) Tryz.f70 [.d (.st 4), .d .str, .d (.int .i64), .d (.int .i64)] [(.st 4, []), (.int .i64, [])] (.s .p (.s .p (.s .p (.s .p (.s .p (.s (.df [0, 0, 0, 0, 0, 0, 1, 4, 4, 4, 1, 2, 4] [] 4) .p)))))) a := by kernel_rfl
def c_70 : Con te := conOf te [.d (.st 4), .d .str, .d (.int .i64), .d (.int .i64)] [(.st 4, []), (.int .i64, [])] true fun a => filesrv_Remove a.1 a.2.1 a.2.2.1 a.2.2.2.1
theorem ok_70 : Con.OK Tryz.prog te 70 c_70 ∧ bodyB Tryz.prog 70 = true := ⟨conOf_ok eqL_ok (tb_ok ok_92 (tb_ok ok_118 (tb_ok ok_42 (tb_ok ok_117 (tb_ok ok_86 (tb_ok ok_81 tnil_ok)))))) Tryz.func70 (by kernel_rfl) e_70, by kernel_rfl⟩
theorem e_69 (a : PA te [.d (.st 4), .d .str, .d (.int .i64), .d (.int .i64), .d (.int .i64)]) : filesrv_Close a.1 a.2.1 a.2.2.1 a.2.2.2.1 a.2.2.2.2.1 = evFun Tryz.prog te eqL (tb 70 c_70 (tb 55 c_55 (tb 92 c_92 (tb 81 c_81 tnil)))) Tryz.f69 [.d (.st 4), .d .str, .d (.int .i64), .d (.int .i64), .d (.int .i64)] [(.st 4, [])] (.s .p (.s .p (.j ⟨[], [], [10, 11], [2, 16], [], 20⟩ true .p .p))) a := by kernel_rfl
def c_69 : Con te := conOf te [.d (.st 4), .d .str, .d (.int .i64), .d (.int .i64), .d (.int .i64)] [(.st 4, [])] true fun a => filesrv_Close a.1 a.2.1 a.2.2.1 a.2.2.2.1 a.2.2.2.2.1
theorem ok_69 : Con.OK Tryz.prog te 69 c_69 ∧ bodyB Tryz.prog 69 = true := ⟨conOf_ok eqL_ok (tb_ok ok_70 (tb_ok ok_55 (tb_ok ok_92 (tb_ok ok_81 tnil_ok)))) Tryz.func69 (by kernel_rfl) e_69, by kernel_rfl⟩
theorem e_27 (a : PA te [.d (.st 4), .d (.st 9)]) : law13_did a.1 a.2.1 = evFun Tryz.prog te eqL (tb 34 c_34 (tb 70 c_70 (tb 69 c_69 (tb 35 c_35 (tb 32 c_32 (tb 68 c_68 tnil)))))) Tryz.f27 [.d (.st 4), .d (.st 9)] [(.st 4, []), (.int .i64, []), (.int .i64, [])] (.s .p (.s .p (.j ⟨[(7, .d (.int .i64)), (8, .d (.int .i64))], [(0, true, .cells 30 [.v (.sl (.st 0)), .v (.sl (.st 1)), .v (.int .i64), .v (.sl (.st 2)), .v (.sl (.int .i64))])], [2, 4], [4], [], 10⟩ false .p .p))) a := by kernel_rfl
def c_27 : Con te := conOf te [.d (.st 4), .d (.st 9)] [(.st 4, []), (.int .i64, []), (.int .i64, [])] true fun a => law13_did a.1 a.2.1
theorem ok_27 : Con.OK Tryz.prog te 27 c_27 ∧ bodyB Tryz.prog 27 = true := ⟨conOf_ok eqL_ok (tb_ok ok_34 (tb_ok ok_70 (tb_ok ok_69 (tb_ok ok_35 (tb_ok ok_32 (tb_ok ok_68 tnil_ok)))))) Tryz.func27 (by kernel_rfl) e_27, by kernel_rfl⟩
theorem e_80 (a : PA te [.d (.st 3), .d .str]) : ref12_Used a.1 a.2.1 = evFun Tryz.prog te eqL tnil Tryz.f80 [.d (.st 3), .d .str] [(.int .i64, []), (.int .i64, [])] (.s .p (.s .p (.s (.s .p (.lp ⟨[(6, .d (.int .i64)), (7, .d (.int .i64)), (8, .d (.int .i64))], [], [1, 2], [0], [], 7⟩ ⟨[(6, .d (.int .i64)), (7, .d (.int .i64))], [], [], [], [], 7⟩ false (.s .p (.j ⟨[(6, .d (.int .i64)), (7, .d (.int .i64))], [], [1, 2, 8], [0], [], 12⟩ false .p .p)))) .p))) a := by kernel_rfl
def c_80 : Con te := conOf te [.d (.st 3), .d .str] [(.int .i64, []), (.int .i64, [])] false fun a => ref12_Used a.1 a.2.1
theorem ok_80 : Con.OK Tryz.prog te 80 c_80 ∧ bodyB Tryz.prog 80 = true := ⟨conOf_ok eqL_ok tnil_ok Tryz.func80 (by kernel_rfl) e_80, by kernel_rfl⟩
end
end Go.Proofs.YtebcipkdnlfboaaGreat
namespace Go.Proofs.YtebcipkdnlfboaaGreat
open Go.Rt Go.RowKit
noncomputable section
theorem e_7 (a : PA te [.d (.st 4), .d (.st 9)]) : law13_FilesrvRights a.1 a.2.1 = evFun Tryz.prog te eqL (tb 30 c_30 (tb 29 c_29 (tb 27 c_27 (tb 11 c_11 (tb 16 c_16 (tb 26 c_26 (tb 10 c_10 tnil))))))) Tryz.f7 [.d (.st 4), .d (.st 9)] [(.bool, [])] (.s .p (.s .p (.s .p (.s (.s .p (.lp ⟨[(39, .d (.int .i64))], [], [2, 3, 5, 38], [0, 2, 8017], [], 8028⟩ ⟨[], [], [], [], [], 8028⟩ true .p)) .p)))) a := by kernel_rfl
def c_7 : Con te := conOf te [.d (.st 4), .d (.st 9)] [(.bool, [])] false fun a => law13_FilesrvRights a.1 a.2.1
theorem ok_7 : Con.OK Tryz.prog te 7 c_7 ∧ bodyB Tryz.prog 7 = true := ⟨conOf_ok eqL_ok (tb_ok ok_30 (tb_ok ok_29 (tb_ok ok_27 (tb_ok ok_11 (tb_ok ok_16 (tb_ok ok_26 (tb_ok ok_10 tnil_ok))))))) Tryz.func7 (by kernel_rfl) e_7, by kernel_rfl⟩
theorem e_31 (a : PA te [.d (.sl (.st 1)), .d (.st 3)]) : ref12_Over a.1 a.2.1 = evFun Tryz.prog te eqL (tb 80 c_80 tnil) Tryz.f31 [.d (.sl (.st 1)), .d (.st 3)] [(.sl .str, [some 9])] (.s .p (.s .p (.s (.s .p (.lp ⟨[(5, .one (.own 5)), (6, .d (.int .i64))], [(5, false, .row 9 .str [])], [0, 3], [0], [], 6⟩ ⟨[(5, .one (.own 5))], [(5, false, .row 9 .str [])], [], [], [], 6⟩ false (.s .p (.j ⟨[(5, .one (.own 10))], [(10, false, .row 9 .str [])], [0, 3, 6], [0], [], 11⟩ false (.s (.dr [0, 0, 0, 0, 0, 0, 0, 0, 0, 0, 0, 0] [] false []) .p) .p)))) .p))) a := by kernel_rfl
def c_31 : Con te := conOf te [.d (.sl (.st 1)), .d (.st 3)] [(.sl .str, [some 9])] false fun a => ref12_Over a.1 a.2.1
theorem ok_31 : Con.OK Tryz.prog te 31 c_31 ∧ bodyB Tryz.prog 31 = true := ⟨conOf_ok eqL_ok (tb_ok ok_80 tnil_ok) Tryz.func31 (by kernel_rfl) e_31, by kernel_rfl⟩
theorem e_8 (a : PA te [.d (.st 4), .d (.st 9)]) : law13_FilesrvQuotas a.1 a.2.1 = evFun Tryz.prog te eqL (tb 27 c_27 (tb 11 c_11 (tb 31 c_31 (tb 16 c_16 (tb 26 c_26 (tb 10 c_10 tnil)))))) Tryz.f8 [.d (.st 4), .d (.st 9)] [(.bool, [])] (.p : Pl) a := by kernel_rfl
def c_8 : Con te := conOf te [.d (.st 4), .d (.st 9)] [(.bool, [])] false fun a => law13_FilesrvQuotas a.1 a.2.1
theorem ok_8 : Con.OK Tryz.prog te 8 c_8 ∧ bodyB Tryz.prog 8 = true := ⟨conOf_ok eqL_ok (tb_ok ok_27 (tb_ok ok_11 (tb_ok ok_31 (tb_ok ok_16 (tb_ok ok_26 (tb_ok ok_10 tnil_ok)))))) Tryz.func8 (by kernel_rfl) e_8, by kernel_rfl⟩
end
end Go.Proofs.YtebcipkdnlfboaaGreat
