/-
 What the statements of this seat hang on, part 6: Ls LDm ShIn LIn ShRp LRp K1 K2 Num Qa Qb Qc Qd Qe Qf Qg Qh.
-/
import Derived.Test.YtolgkhjkdadhiaaGreatYC5
import Derived.Shelf.SlLaysE
import Derived.Shelf.RegionOpenPlain
import Derived.WalkKit
import Derived.Deep.LoopGhost
import Derived.Deep.RegionLaw
import Derived.Lib.Walk
import Derived.Sort.WalkB12
import Derived.Lib.SliceRun
import Derived.Test.YtolgkhjkdadhiaaGreatProg
import Derived.KernelRfl
import Derived.Shelf.Spec.SlicesInsertGrow
import Derived.Ground.Names2Prog
import Derived.Lib.Agree
import Derived.Shelf.Strings.Repeat
import Derived.Ground.NamesProg
import Derived.Laws.BitsLemmas
namespace Go
namespace Rt
open Go.RowKit Go.Shelf Go.Sort Go.Proofs Go.Lib
section
variable {P : Program} {ρ : Ren}
theorem h6_ (z : Array Value) (n : Nat) : (Builtin.zeroCells z n).toList.length = n * z.size := by simp [Builtin.zeroCells]
theorem rw_ {z : Array Value} (h : ∀ v ∈ z.toList, v.oneCell' = true) {n : Nat} {v : Value} (hv : v ∈ (Builtin.zeroCells z n).toList) : v.oneCell' = true := by
 simp only [Builtin.zeroCells, Array.toList_map, List.mem_map, Array.toList_range, List.mem_range] at hv
 obtain ⟨i, hi, rfl⟩ := hv
 have hz : 0 < z.size := by
  rcases Nat.eq_zero_or_pos z.size with h0 | h0
  ·rw [h0] at hi; omega
  ·exact h0
 have hlt := Nat.mod_lt i hz
 rw [getElem!_pos z (i % z.size) hlt]
 exact h _ (by simp)
theorem o3_ (w : World) (t e ty : TypeId) (z : Value) (ht : P.underlying t = some (.slice e)) (hv : ∀ w, (zeroValue e).run P w = .ok z w) (h1 : ∀ v ∈ z.cells.toList, v.oneCell' = true) (b o n c : Nat) (hn : 0 < n)
  (hc : ∀ j, j < n * z.cells.size → (w.cell? ⟨b, o + j, none⟩).isSome = true) (hf : ∀ j, j < n * z.cells.size → w.frozen? ⟨b, o + j, none⟩ = false) :
  (Builtin.clear_ #[t] ty #[.slice (some ⟨b, o, none⟩) n c]).run P w = .ok (.tuple #[]) (w.setCells b o (Builtin.zeroCells z.cells n).toList) := by
 have hst := run_storeCells_cells (P := P) b o (Builtin.zeroCells z.cells n).toList 0 w (by rw [h6_]; simpa using hc) (by rw [h6_]; simpa using hf) (fun v hv => rw_ h1 hv)
 simp only [Nat.add_zero] at hst
 obtain ⟨m, rfl⟩ : ∃ m, n = m + 1 := ⟨n - 1, by omega⟩
 simp [Builtin.clear_, run_underlying ht, hv, hst]
structure DelL (P : Program) (ρ : Ren) (c : Nat) (zc : Array Value) : Prop where
 mixed : P.follows .mixedOrders = true
 f45 : Bears P (ρ.f 45) (SlBodyN.n45 ρ)
 t0 : P.underlying (ρ.t 0) = some (TypeDesc.tuple #[])
 a0 : ∀ w, (isAgg (ρ.t 0)).run P w = .ok false w
 z0 : ∀ w, (Go.sizeOf (ρ.t 0)).run P w = .ok 1 w
 v0 : ∀ w, (zeroValue (ρ.t 0)).run P w = .ok (Value.tuple #[]) w
 t3 : P.underlying (ρ.t 3) = some (TypeDesc.int IntKind.i64)
 a3 : ∀ w, (isAgg (ρ.t 3)).run P w = .ok false w
 z3 : ∀ w, (Go.sizeOf (ρ.t 3)).run P w = .ok 1 w
 v3 : ∀ w, (zeroValue (ρ.t 3)).run P w = .ok (Value.int IntKind.i64 0) w
 t4 : P.underlying (ρ.t 4) = some (TypeDesc.bool)
 a4 : ∀ w, (isAgg (ρ.t 4)).run P w = .ok false w
 z4 : ∀ w, (Go.sizeOf (ρ.t 4)).run P w = .ok 1 w
 v4 : ∀ w, (zeroValue (ρ.t 4)).run P w = .ok (Value.bool false) w
 t22 : P.underlying (ρ.t 22) = some (TypeDesc.slice (ρ.t 23))
 a22 : ∀ w, (isAgg (ρ.t 22)).run P w = .ok false w
 z22 : ∀ w, (Go.sizeOf (ρ.t 22)).run P w = .ok 1 w
 v22 : ∀ w, (zeroValue (ρ.t 22)).run P w = .ok (Value.slice none 0 0) w
 z23 : ∀ w, (Go.sizeOf (ρ.t 23)).run P w = .ok c w
 v23 : ∀ w, (zeroValue (ρ.t 23)).run P w = .ok (.agg zc) w
 i23 : (P.info? (ρ.t 23)).map (fun i => i.size) = some c
 zs : zc.size = c
 zo : ∀ v ∈ zc.toList, v.oneCell' = true
theorem n0_ {w : World} {b : Nat} {cs : List Value} {e : TypeId} (hh : w.heap[b]? = some (.cells cs.toArray e (0, 0))) (t : Nat) : w.cell? ⟨b, t, none⟩ = cs[t]? := by
 rw [cell_of_row w b t _ e (0, 0) hh]
 simp
theorem row_free {w : World} {b : Nat} {cs : Array Value} {e : TypeId} (hh : w.heap[b]? = some (.cells cs e (0, 0))) (t : Nat) : w.frozen? ⟨b, t, none⟩ = false := by
 unfold World.frozen?; simp only [hh]; simp
set_option maxHeartbeats 4000000 in
set_option maxRecDepth 1000000 in
theorem del_cells {c : Nat} {zc : Array Value} (L : DelL P ρ c zc) {b off n cap i j : Nat} (ho : off = 0) {cs : List Value} {e : TypeId} (w : World) (hh : w.heap[b]? = some (.cells cs.toArray e (0, 0))) (hcs : cs.length = cap * c) (hone : ∀ v ∈ cs.take (n * c), v.oneCell' = true) (hcap : n ≤ cap) (hm : cap ≤ 9223372036854775807) (hij : i < j) (hj : j ≤ n) :
  Calls P (ρ.f 45) #[.slice (some ⟨b, off, none⟩) n cap, .int .i64 i, .int .i64 j] w fun x w' => x = .returned (.slice (some ⟨b, off, none⟩) (n - (j - i)) cap) ∧ w' = (w.drew.setCells b (off + i * c) ((cs.take (n * c)).drop (j * c))).setCells b (off + (i + (n - j)) * c) (Builtin.zeroCells zc (j - i)).toList := by
 have mixed := L.mixed; have t0 := L.t0; have a0 := L.a0; have z0 := L.z0; have v0 := L.v0; have t3 := L.t3; have a3 := L.a3; have z3 := L.z3; have v3 := L.v3; have t4 := L.t4; have a4 := L.a4; have z4 := L.z4; have v4 := L.v4; have t22 := L.t22; have a22 := L.a22; have z22 := L.z22; have v22 := L.v22; have z23 := L.z23
 obtain ⟨i0, hi0, hz1⟩ : ∃ i0, P.info? (ρ.t 23) = some i0 ∧ i0.size = c := Option.map_eq_some_iff.1 L.i23
 have hnc : n * c ≤ cs.length := by rw [hcs]; exact Nat.mul_le_mul_right _ hcap
 have hjc' : j * c ≤ n * c := Nat.mul_le_mul_right _ hj
 have hic' : i * c ≤ j * c := Nat.mul_le_mul_right _ (Nat.le_of_lt hij)
 obtain ⟨news, hnews⟩ : ∃ news, news = (cs.take (n * c)).drop (j * c) := ⟨_, rfl⟩
 have hlen : news.length = (n - j) * c := by rw [hnews, Nat.sub_mul]; simp; omega
 have hsum : (i + (n - j)) * c = i * c + (n - j) * c := Nat.add_mul _ _ _
 have hsub : (n - j) * c = n * c - j * c := Nat.sub_mul _ _ _
 obtain ⟨A, hA, hsrc⟩ : ∃ A : Addr, (if cap = j then some (⟨b, off, none⟩ : Addr) else some ⟨b, off + j * c, none⟩) = some A ∧ Hid (∀ t u, news[t]? = some u → w.drew.cell? (A.add t) = some u) := by
  by_cases h : cap = j
  ·refine ⟨⟨b, off, none⟩, by simp [h], fun t u hu => ?_⟩
   have h0 : news.length = 0 := by rw [hlen, show n - j = 0 by omega, Nat.zero_mul]
   rw [List.length_eq_zero_iff.1 h0] at hu
   simp at hu
  ·refine ⟨⟨b, off + j * c, none⟩, by simp [h], fun t u hu => ?_⟩
   rw [hnews, List.getElem?_drop, List.getElem?_take] at hu
   split at hu
   ·rw [Addr.add_lit, show off + j * c + t = j * c + t by omega]
    exact (n0_ hh _).trans hu
   ·cases hu
 have s1 : Hid (news.length = (n - j) * c) := hlen
 have s2 : Hid (∀ u ∈ news, u.oneCell' = true) := by
  intro u hu
  rw [hnews] at hu
  exact hone u (List.mem_of_mem_drop hu)
 have s3 : Hid (∀ t, t < news.length → (w.drew.cell? ⟨b, off + i * c + t, none⟩).isSome = true ∧ w.drew.frozen? ⟨b, off + i * c + t, none⟩ = false) := by
  intro t ht
  rw [hlen, hsub] at ht
  exact ⟨by rw [show w.drew.cell? ⟨b, off + i * c + t, none⟩ = cs[off + i * c + t]? from n0_ hh _, List.getElem?_eq_getElem (by omega)]; rfl, row_free (w := w.drew) hh _⟩
 obtain ⟨W1, hW1⟩ : ∃ W1, W1 = w.drew.setCells b (off + i * c) news := ⟨_, rfl⟩
 obtain ⟨g1, _, _⟩ := cN_ (b := b) (e := e) news (off + i * c) cs w.drew hh (by rw [hlen]; omega)
 rw [← hW1] at g1
 have hsz : (aH_ cs (off + i * c) news).length = cs.length := by unfold aH_; simp; omega
 have hcl : ∀ ty, (Builtin.clear_ #[ρ.t 22] ty #[.slice (some ⟨b, off + (i + (n - j)) * c, none⟩) (n - (i + (n - j))) (cap - (i + (n - j)))]).run P W1 = .ok (.tuple #[]) (W1.setCells b (off + (i + (n - j)) * c) (Builtin.zeroCells zc (n - (i + (n - j)))).toList) :=
  fun ty => by
   have hk : (n - (i + (n - j))) * c = n * c - (i + (n - j)) * c := Nat.sub_mul _ _ _
   refine o3_ W1 _ _ ty (.agg zc) t22 L.v23 L.zo b _ _ _ (by omega) (fun t ht => ?_) (fun t _ => row_free g1 _)
   rw [show (Value.agg zc).cells.size = c from L.zs, hk, hsum] at ht
   rw [n0_ g1, List.getElem?_eq_getElem (by rw [hsz]; omega)]; rfl
 have hW : Hid (W1 = w.drew.setCells b (off + i * c) news) := hW1
 have hic : i ≤ cap := by omega
 have hjc : j ≤ cap := by omega
 subst hnews
 clear ho hW1 hh g1 hsz hlen hone hcs hnc hjc' hic' hsum hsub
 obtain ⟨_, _, FG⟩ := L.f45
 go_enter FG, SlBodyN.n45_ntmps ρ
 go_wp2_with fail
 go_region_law_o (refine step_append_room rfl (.tmp 22) (.tmp 25) (ρ.t 22) rfl (ρ.t 23) i0 c t22 hi0 hz1 b off i cap (by simp [Act.eval, Act.put]) A (n - j) (cap - j) _ (by simp [Act.eval, Act.put]) s1.out hsrc.out s2.out (by omega) s3.out ?_; rw [← hW.out])
 go_wp2
 go_ret
 refine ⟨by rw [show n - (j - i) = i + (n - j) by omega]; rfl, ?_⟩
 rw [show n - (i + (n - j)) = j - i by omega, hW.out]
set_option maxHeartbeats 4000000 in
set_option maxRecDepth 1000000 in
theorem del_same {c : Nat} {zc : Array Value} (L : DelL P ρ c zc) {b off n cap i : Nat} (w : World) (hcap : n ≤ cap) (hj : i ≤ n) :
  Calls P (ρ.f 45) #[.slice (some ⟨b, off, none⟩) n cap, .int .i64 i, .int .i64 i] w fun x w' => x = .returned (.slice (some ⟨b, off, none⟩) n cap) ∧ w' = w := by
 have mixed := L.mixed; have t0 := L.t0; have a0 := L.a0; have z0 := L.z0; have v0 := L.v0; have t3 := L.t3; have a3 := L.a3; have z3 := L.z3; have v3 := L.v3; have t4 := L.t4; have a4 := L.a4; have z4 := L.z4; have v4 := L.v4; have t22 := L.t22; have a22 := L.a22; have z22 := L.z22; have v22 := L.v22; have z23 := L.z23
 obtain ⟨_, _, FG⟩ := L.f45
 go_enter FG, SlBodyN.n45_ntmps ρ
 go_wp2
 all_goals (go_ret; exact ⟨rfl, rfl⟩)
end
section
variable {P : Program} {ρ : Ren} {E : TE} {z : Fz} {g : Ga} {w w' w0 : World} {Bs : List Nat} {F0 : Nat → Prop}
theorem my_ {rows : List (List Value)} {c : Nat} (hr : ∀ r ∈ rows, r.length = c) {i : Nat} (hi : i ≤ rows.length) : (rows.take i).flatten = rows.flatten.take (i * c) ∧ (rows.drop i).flatten = rows.flatten.drop (i * c) := by
 have e1 : rows.flatten = (rows.take i).flatten ++ (rows.drop i).flatten := by rw [← List.flatten_append, List.take_append_drop]
 have e2 : (rows.take i).flatten.length = i * c := by rw [aV_ (fun r h => hr r (List.mem_of_mem_take h)), List.length_take, Nat.min_eq_left hi]
 rw [e1, ← e2]
 constructor
 ·rw [List.take_left]
 ·rw [List.drop_left]
theorem del_splice {cs news Z : List Value} {a k m : Nat} (h1 : cs.length = m) (h2 : a + news.length = k) (h3 : k + Z.length ≤ m) : (aH_ (aH_ cs a news) k Z).length = m ∧ (aH_ (aH_ cs a news) k Z).take k = cs.take a ++ news := by
 have l1 : (aH_ cs a news).length = m := by unfold aH_; simp; omega
 constructor
 ·unfold aH_ at l1 ⊢
  simp at l1 ⊢
  omega
 ·have : (aH_ (aH_ cs a news) k Z) = (aH_ cs a news).take k ++ (Z ++ (aH_ cs a news).drop (k + Z.length)) := by unfold aH_; simp
  rw [this, List.take_append_of_le_length (by rw [List.length_take, l1]; omega), List.take_take, Nat.min_self]
  have l3 : (cs.take a ++ news).length = k := by rw [List.length_append, List.length_take]; omega
  have : aH_ cs a news = (cs.take a ++ news) ++ cs.drop (a + news.length) := by unfold aH_; simp
  rw [this, ← l3, List.take_left]
def conDelM (E : TE) (t : Ty) (e : TypeId) : Con E := ak_ E [.g (.sl t) [some e], .d (.int .i64), .d (.int .i64)] [(.sl t, [some e])] true fun a => delN (α := Den E.S t) a.1 a.2.1 a.2.2.1
theorem conDelM_ok {c : Nat} {zc : Array Value} {t : Ty} (L : DelL P ρ c zc) (hsz : E.size t = c) : Con.OK P E (ρ.f 45) (conDelM E t (ρ.t 23)) := by
 intro R a k r hr
 obtain ⟨y, h1, h2⟩ := bind_some hr
 refine ⟨_, _, h2, ?_⟩
 obtain ⟨xs, i, j, u⟩ := a
 obtain ⟨hne, hi0, hij, hj, rfl⟩ := delN_some (show delN (α := Den E.S t) xs i j = some y from h1)
 intro w z g Bs svs vs hav hH hfr hv
 obtain rfl := Option.some.inj (show some [V1.one (.own 0), .one (.dt (.int .i64) i), .one (.dt (.int .i64) j)] = some svs from hav)
 cases hv with
 | cons v1 hv => cases hv with
  | cons v2 hv => cases hv with
   | cons v3 hv =>
    cases hv
    have hx := hH.hold 0 (.row (ρ.t 23) t xs []) rfl
    obtain ⟨l0, rows, g0, n0, hc0, hown, hrl, hrc, hrows, _⟩ := hx
    obtain ⟨l0', e0, rfl⟩ := v1
    rw [g0] at e0; obtain rfl := Option.some.inj e0
    obtain ⟨vs2, e2, _⟩ := RD.int_inv (show RD E z [.int .i64] (i, ()) _ from v2)
    obtain ⟨rfl, _⟩ := List.cons.inj e2
    obtain ⟨vs3, e3, _⟩ := RD.int_inv (show RD E z [.int .i64] (j, ()) _ from v3)
    obtain ⟨rfl, _⟩ := List.cons.inj e3
    obtain ⟨j, rfl⟩ : ∃ q : Nat, j = (q : Int) := ⟨Int.toNat j, (Int.toNat_of_nonneg (Int.le_trans hi0 hij)).symm⟩
    obtain ⟨i, rfl⟩ : ∃ q : Nat, i = (q : Int) := ⟨Int.toNat i, (Int.toNat_of_nonneg hi0).symm⟩
    have hc : l0.c = c := by rw [hc0, hsz]
    have hij' : i ≤ j := by omega
    have hj' : j ≤ xs.length := by omega
    simp only [Int.toNat_natCast]
    rw [hc] at hown hrc
    obtain ⟨hfl, hown⟩ := hown
    rcases hown with ⟨_, h0⟩ | ⟨b, cap, cur, hv, _, hh, hnc, hcm, hcs, htk⟩
    ·exact absurd (List.length_eq_zero_iff.1 (by omega)) hne
    ·injection hv with hA _ hcp
     have hn' : rows.length = xs.length := hrl.trans n0
     have hlen : (xs.take i ++ xs.drop j).length = xs.length - (j - i) := by rw [List.length_append, List.length_take, List.length_drop]; omega
     have hnewrows : Rows E z t (xs.take i ++ xs.drop j) (rows.take i ++ rows.drop j) := by
      have r1 := hM_ hrows 0 i
      have r2 := hM_ hrows j xs.length
      rw [List.drop_zero, List.drop_zero] at r1
      rw [List.take_length, List.take_of_length_le (by omega)] at r2
      exact r1.append r2 (by simp; omega)
     have hri : i ≤ rows.length := by rw [hn']; exact Nat.le_trans hij' hj'
     have hrj : j ≤ rows.length := by rw [hn']; exact hj'
     obtain ⟨tf1, tf2⟩ := my_ hrc (i := i) hri
     obtain ⟨tg1, tg2⟩ := my_ hrc (i := j) hrj
     have hone : ∀ v ∈ cur.toList.take (xs.length * c), v.oneCell' = true := by
      rw [← n0, htk]
      exact l5_ (hrows.cells (by omega)).1
     have key : Calls P (ρ.f 45) #[.slice (some ⟨b, 0, none⟩) xs.length cap, .int .i64 (i : Int), .int .i64 (j : Int)] w fun x w' => x = .returned (.slice (some ⟨b, 0, none⟩) (xs.length - (j - i)) cap) ∧ Grow w w' ∧ (∀ q, q ≠ b → w'.heap[q]? = w.heap[q]?) ∧ ∃ cs : List Value, w'.heap[b]? = some (.cells cs.toArray (ρ.t 23) (0, 0)) ∧ cs.length = cap * c ∧ cs.take ((xs.length - (j - i)) * c) = (rows.take i ++ rows.drop j).flatten := by
      rcases Nat.eq_or_lt_of_le hij' with rfl | hlt
      ·refine Calls.mono (del_same L w (b := b) (off := 0) (n := xs.length) (cap := cap) (i := i) (by omega) hj') fun x w' ⟨q1, q2⟩ => ?_
       subst q2
       refine ⟨by rw [Nat.sub_self, Nat.sub_zero]; exact q1, Grow.refl _, fun _ _ => rfl, cur.toList, by simpa using hh, by simpa using hcs, ?_⟩
       rw [Nat.sub_self, Nat.sub_zero, List.take_append_drop, ← n0]; exact htk
      ·refine Calls.mono (del_cells L (b := b) (off := 0) (n := xs.length) (cap := cap) (i := i) (j := j) rfl (cs := cur.toList) (e := ρ.t 23) w (by simpa using hh) (by simpa using hcs) hone (by omega) (by unfold maxLen at hcm; omega) hlt hj') fun x w' ⟨q1, q2⟩ => ?_
       have hjc : j * c ≤ xs.length * c := Nat.mul_le_mul_right _ hj'
       have hcc : xs.length * c ≤ cap * c := Nat.mul_le_mul_right _ (by omega)
       have hsum : (i + (xs.length - j)) * c = i * c + (xs.length - j) * c := Nat.add_mul _ _ _
       have hsub : (xs.length - j) * c = xs.length * c - j * c := Nat.sub_mul _ _ _
       have hdif : (j - i) * c = j * c - i * c := Nat.sub_mul _ _ _
       have hic : i * c ≤ j * c := Nat.mul_le_mul_right _ hij'
       have hcl : cur.toList.length = cap * c := by simpa using hcs
       have hnl : ((cur.toList.take (xs.length * c)).drop (j * c)).length = (xs.length - j) * c := by rw [hsub]; simp only [List.length_drop, List.length_take]; omega
       have hzl : (Builtin.zeroCells zc (j - i)).toList.length = (j - i) * c := by rw [h6_, L.zs]
       obtain ⟨a1, a2, a3⟩ := cN_ (b := b) (e := ρ.t 23) ((cur.toList.take (xs.length * c)).drop (j * c)) (0 + i * c) cur.toList w.drew (by show w.heap[b]? = _; simpa using hh) (by rw [hnl]; omega)
       have hl1 : (aH_ cur.toList (0 + i * c) ((cur.toList.take (xs.length * c)).drop (j * c))).length = cap * c := by unfold aH_; simp only [List.length_append, List.length_take, List.length_drop] at hnl ⊢; omega
       obtain ⟨b1, b2, b3⟩ := cN_ (b := b) (e := ρ.t 23) (Builtin.zeroCells zc (j - i)).toList (0 + (i + (xs.length - j)) * c) _ _ a1 (by rw [hl1, hzl]; omega)
       rw [← q2] at b1 b2 b3
       rw [Nat.zero_add, Nat.zero_add] at b1
       obtain ⟨d1, d2⟩ := del_splice (cs := cur.toList) (news := (cur.toList.take (xs.length * c)).drop (j * c)) (Z := (Builtin.zeroCells zc (j - i)).toList) (a := i * c) (k := (i + (xs.length - j)) * c) (m := cap * c) hcl (by rw [hnl, hsum]) (by rw [hzl]; omega)
       refine ⟨q1, ((show Grow w w.drew from ⟨rfl, rfl, rfl, Nat.le_refl _⟩).trans a2).trans b2, fun q hq => (b3 q hq).trans (a3 q hq), _, b1, d1, ?_⟩
       rw [show xs.length - (j - i) = i + (xs.length - j) by omega, d2, List.flatten_append, tf1, tg2, ← htk, n0, List.take_take, Nat.min_eq_left (by omega)]
     rw [n0, hA, hcp]
     refine key.mono fun v w' ⟨hv', hg', hk', cs, b1, b2, b3⟩ => ?_
     subst hv'
     refine ⟨_, rfl, ?_⟩
     refine ⟨z, g.put 1 ⟨some ⟨b, 0, none⟩, xs.length - (j - i), cap, c, 0, 0⟩, [.one (.own 1)], Fz.Le.refl z, fun _ => rfl, Ga.le_put (hfr 1 (Nat.le_refl _)), rfl, ⟨_, Ga.put_self _ _ _, rfl⟩, ?_⟩
     refine hH.turn (Ga.le_put (hfr 1 (Nat.le_refl _))) (i := 0) (i' := 1) (C := fun q => q = b) (fun q hq => ⟨_, rfl, l0, _, g0, hA, hq⟩) hg' (fun q _ hq => hk' q hq) (o' := .row (ρ.t 23) t (xs.take i ++ xs.drop j) []) ?_ (fun q hq => ?_) fun j' o hj' => ?_
     ·refine ⟨_, rows.take i ++ rows.drop j, Ga.put_self _ _ _, hlen.symm, hsz.symm, ⟨?_, .inr ⟨b, cap, cs.toArray, rfl, Nat.zero_le _, b1, by show xs.length - (j - i) ≤ cap; omega, hcm, by simpa using b2, b3⟩⟩, by show (rows.take i ++ rows.drop j).length = xs.length - (j - i); simp; omega, fun r hr => ?_, hnewrows, fun p hp => nomatch hp⟩
      ·rw [← b3, List.length_take, Nat.min_eq_left]
       rw [b2]
       exact Nat.mul_le_mul_right _ (by omega)
      ·rcases List.mem_append.1 hr with hr | hr
       ·exact hrc r (List.mem_of_mem_take hr)
       ·exact hrc r (List.mem_of_mem_drop hr)
     ·obtain ⟨l2, a2, h5, h6, rfl⟩ := hq
      rw [Ga.put_self] at h5
      obtain rfl := Option.some.inj h5
      injection h6 with h6
      exact .inl (by rw [← h6])
     ·rcases cy_ (H := fun _ => none) (i := 1) (p := .row (ρ.t 23) t (xs.take i ++ xs.drop j) []) hj' with h | ⟨_, h⟩
      ·exact .inl h
      ·cases h
end
end Rt
end Go
namespace Go.Proofs.YtolgkhjkdadhiaaGreat
open Go.Rt Go.RowKit Go.Shelf
noncomputable section
def renDm : Go.Shelf.Ren := ⟨fun | 45 => 121 | n => n, fun | 22 => 23 | 23 => 63 | 3 => 3 | 4 => 4 | 0 => 0 | n => n, fun | n => n⟩
def zeroDm : Array Value := #[.int .i64 0, .int .i64 0, .int .i64 0, .int .i64 0, .int .i64 0, .int .i64 0, .int .i64 0, .string ⟨#[]⟩, .string ⟨#[]⟩, .string ⟨#[]⟩, .slice none 0 0, .slice none 0 0, .int .i64 0, .int .i64 0, .int .i64 0, .int .i64 0, .int .i64 0, .int .i64 0, .string ⟨#[]⟩, .int .i64 0, .int .i64 0, .string ⟨#[]⟩, .int .i64 0, .int .i64 0, .int .i64 0, .int .i64 0, .int .i64 0, .int .i64 0, .int .i64 0, .int .i64 0, .int .i64 0, .string ⟨#[]⟩, .string ⟨#[]⟩, .string ⟨#[]⟩, .string ⟨#[]⟩, .int .i64 0, .int .i64 0, .int .i64 0, .string ⟨#[]⟩, .int .i64 0]
theorem oneDm : (zeroDm.toList.all fun v => v.oneCell') = true := by kernel_rfl
theorem delDm : DelL Tryz.prog renDm 40 zeroDm := {
 mixed := by kernel_rfl
 f45 := ⟨Tryz.f121.name, by kernel_rfl, Tryz.func121.trans (congrArg some (by kernel_rfl))⟩
 t0 := Tryz.underlying0
 a0 := Tryz.isAgg0
 z0 := Tryz.sizeOf0
 v0 := Tryz.zeroValue0
 t3 := Tryz.underlying3
 a3 := Tryz.isAgg3
 z3 := Tryz.sizeOf3
 v3 := Tryz.zeroValue3
 t4 := Tryz.underlying4
 a4 := Tryz.isAgg4
 z4 := Tryz.sizeOf4
 v4 := Tryz.zeroValue4
 t22 := Tryz.underlying23
 a22 := Tryz.isAgg23
 z22 := Tryz.sizeOf23
 v22 := Tryz.zeroValue23
 z23 := Tryz.sizeOf63
 v23 := Tryz.zeroValue63
 i23 := by kernel_rfl
 zs := by kernel_rfl
 zo := fun v hv => List.all_eq_true.1 oneDm v hv }
def d9_ : Con te := conDelM te (.st 3) 63
theorem eB_ : Con.OK Tryz.prog te 121 d9_ ∧ bT_ Tryz.prog 121 = true := by
 refine ⟨?_, by kernel_rfl⟩
 exact conDelM_ok (E := te) (t := .st 3) delDm (by kernel_rfl)
end
end Go.Proofs.YtolgkhjkdadhiaaGreat
namespace Go.Proofs
open Go.Shelf
def Tryz.laysInsert_ren : Go.Shelf.Ren := ⟨fun | 21 => 60 | 27 => 99 | 28 => 100 | 35 => 133 | 39 => 167 | n => n, fun | 22 => 22 | 3 => 3 | 4 => 4 | 0 => 0 | n => n, fun | n => n⟩
theorem Tryz.laysInsert : Go.Proofs.Lays2.n21 Tryz.prog Tryz.laysInsert_ren := {
 mixed := by kernel_rfl
 f21 := Tryz.func60.trans (congrArg some (by kernel_rfl))
 f27 := Tryz.func99.trans (congrArg some (by kernel_rfl))
 f28 := Tryz.func100.trans (congrArg some (by kernel_rfl))
 f35 := Tryz.func133.trans (congrArg some (by kernel_rfl))
 f39 := Tryz.func167.trans (congrArg some (by kernel_rfl))
 t0 := Tryz.underlying0
 a0 := Tryz.isAgg0
 z0 := Tryz.sizeOf0
 v0 := Tryz.zeroValue0
 t3 := Tryz.underlying3
 a3 := Tryz.isAgg3
 z3 := Tryz.sizeOf3
 v3 := Tryz.zeroValue3
 t4 := Tryz.underlying4
 a4 := Tryz.isAgg4
 z4 := Tryz.sizeOf4
 v4 := Tryz.zeroValue4
 t22 := Tryz.underlying22
 a22 := Tryz.isAgg22
 z22 := Tryz.sizeOf22
 v22 := Tryz.zeroValue22
 i3 := by kernel_rfl }
end Go.Proofs
namespace Go.Proofs.YtolgkhjkdadhiaaGreat
open Go.Shelf Go.RowKit Go.Rt
theorem fInsert : Tryz.laysInsert_ren.f 21 = 60 := by kernel_rfl
theorem tInsert : Tryz.laysInsert_ren.t 3 = 3 := by kernel_rfl
def ns_ : Con te := conIns te 3
theorem lI_ : Con.OK Tryz.prog te 60 ns_ ∧ bT_ Tryz.prog 60 = true := by
 refine ⟨?_, by kernel_rfl⟩
 have h := conIns_ok (E := te) Tryz.laysInsert
 rw [fInsert, tInsert] at h
 exact h
end Go.Proofs.YtolgkhjkdadhiaaGreat
namespace Go.Proofs
open Go.Shelf
def Tryz.laysRepeat_ren : Go.Shelf.Ren := ⟨fun | 105 => 183 | 212 => 188 | 99 => 189 | 165 => 190 | 166 => 191 | 170 => 192 | 169 => 193 | 263 => 195 | 264 => 196 | 206 => 197 | 240 => 198 | 241 => 199 | 276 => 203 | 277 => 204 | n => n, fun | 9 => 9 | 3 => 3 | 4 => 4 | 20 => 20 | 0 => 0 | 46 => 122 | 109 => 200 | 5 => 5 | 72 => 205 | 76 => 209 | 51 => 213 | 146 => 214 | 53 => 124 | 148 => 216 | 70 => 203 | 37 => 119 | 75 => 208 | 127 => 218 | 164 => 221 | 80 => 165 | n => n, fun | n => n⟩
theorem Tryz.laysRepeat : Go.Proofs.Lays.n105 Tryz.prog Tryz.laysRepeat_ren := {
 mixed := by kernel_rfl
 f99 := Tryz.func189.trans (congrArg some (by kernel_rfl))
 f105 := Tryz.func183.trans (congrArg some (by kernel_rfl))
 f165 := Tryz.func190.trans (congrArg some (by kernel_rfl))
 f166 := Tryz.func191.trans (congrArg some (by kernel_rfl))
 f169 := Tryz.func193.trans (congrArg some (by kernel_rfl))
 f170 := Tryz.func192.trans (congrArg some (by kernel_rfl))
 f206 := Tryz.func197.trans (congrArg some (by kernel_rfl))
 f212 := Tryz.func188.trans (congrArg some (by kernel_rfl))
 f240 := Tryz.func198.trans (congrArg some (by kernel_rfl))
 f241 := Tryz.func199.trans (congrArg some (by kernel_rfl))
 f263 := Tryz.func195.trans (congrArg some (by kernel_rfl))
 f264 := Tryz.func196.trans (congrArg some (by kernel_rfl))
 f276 := Tryz.func203.trans (congrArg some (by kernel_rfl))
 f277 := Tryz.func204.trans (congrArg some (by kernel_rfl))
 t0 := Tryz.underlying0
 a0 := Tryz.isAgg0
 z0 := Tryz.sizeOf0
 v0 := Tryz.zeroValue0
 t3 := Tryz.underlying3
 a3 := Tryz.isAgg3
 z3 := Tryz.sizeOf3
 v3 := Tryz.zeroValue3
 t4 := Tryz.underlying4
 a4 := Tryz.isAgg4
 z4 := Tryz.sizeOf4
 v4 := Tryz.zeroValue4
 t5 := Tryz.underlying5
 a5 := Tryz.isAgg5
 z5 := Tryz.sizeOf5
 v5 := Tryz.zeroValue5
 t9 := Tryz.underlying9
 a9 := Tryz.isAgg9
 z9 := Tryz.sizeOf9
 v9 := Tryz.zeroValue9
 t20 := Tryz.underlying20
 a20 := Tryz.isAgg20
 z20 := Tryz.sizeOf20
 v20 := Tryz.zeroValue20
 t37 := Tryz.underlying119
 a37 := Tryz.isAgg119
 z37 := Tryz.sizeOf119
 v37 := Tryz.zeroValue119
 t46 := Tryz.underlying122
 a46 := Tryz.isAgg122
 z46 := Tryz.sizeOf122
 v46 := Tryz.zeroValue122
 t51 := Tryz.underlying213
 a51 := Tryz.isAgg213
 z51 := Tryz.sizeOf213
 v51 := Tryz.zeroValue213
 t53 := Tryz.underlying124
 a53 := Tryz.isAgg124
 z53 := Tryz.sizeOf124
 v53 := Tryz.zeroValue124
 t70 := Tryz.underlying203
 a70 := Tryz.isAgg203
 z70 := Tryz.sizeOf203
 v70 := Tryz.zeroValue203
 t72 := Tryz.underlying205
 a72 := Tryz.isAgg205
 z72 := Tryz.sizeOf205
 v72 := Tryz.zeroValue205
 t75 := Tryz.underlying208
 a75 := Tryz.isAgg208
 z75 := Tryz.sizeOf208
 v75 := Tryz.zeroValue208
 t76 := Tryz.underlying209
 a76 := Tryz.isAgg209
 z76 := Tryz.sizeOf209
 v76 := Tryz.zeroValue209
 t109 := Tryz.underlying200
 a109 := Tryz.isAgg200
 z109 := Tryz.sizeOf200
 v109 := Tryz.zeroValue200
 t127 := Tryz.underlying218
 a127 := Tryz.isAgg218
 z127 := Tryz.sizeOf218
 v127 := Tryz.zeroValue218
 t146 := Tryz.underlying214
 a146 := Tryz.isAgg214
 z146 := Tryz.sizeOf214
 v146 := Tryz.zeroValue214
 t148 := Tryz.underlying216
 a148 := Tryz.isAgg216
 z148 := Tryz.sizeOf216
 v148 := Tryz.zeroValue216
 t164 := Tryz.underlying221
 a164 := Tryz.isAgg221
 z164 := Tryz.sizeOf221
 v164 := Tryz.zeroValue221 }
end Go.Proofs
namespace Go.Proofs.YtolgkhjkdadhiaaGreat
open Go.Shelf Go.RowKit Go.Rt
theorem Tryz.extraRepeat : Builder.Extra Tryz.prog Tryz.laysRepeat_ren where
 sizeBuilder := by kernel_rfl
 liesBuilder := by kernel_rfl
 t5 := Tryz.laysRepeat.t5
 a5 := Tryz.laysRepeat.a5
 z5 := Tryz.laysRepeat.z5
 v5 := Tryz.laysRepeat.v5
 infoByte := by kernel_rfl
 cellsByte := by kernel_rfl
 sizeByte := by kernel_rfl
 neB5 := by decide
theorem fRepeat : Tryz.laysRepeat_ren.f 105 = 183 := by kernel_rfl
theorem o4_ (l : List UInt8) : ∀ c, Lib.repeatL l c = (List.replicate c l).flatten
 | 0 => rfl
 | c + 1 => by rw [Lib.repeatL, o4_ l c, List.replicate_succ, List.flatten_cons]
theorem n1_ (x0 : Str) (x1 : Int) (r : Str) (hF : strings_Repeat x0 x1 = some r) (w0 : World) : Ret Tryz.prog 183 #[S x0, .int .i64 x1] w0 fun v w => v = S r ∧ Ext w0 w := by
 unfold strings_Repeat at hF
 split at hF
 ·rename_i h
  obtain ⟨h0, h1, h2⟩ := h
  simp only [Option.some.injEq] at hF
  subst hF
  obtain ⟨c, rfl⟩ : ∃ c : Nat, x1 = (c : Int) := ⟨x1.toNat, by omega⟩
  have hh := Any.strings_Repeat Tryz.laysRepeat Tryz.extraRepeat ⟨x0.toArray⟩ c w0 (by omega) (by rw [jq_]; simpa using h2)
  rw [fRepeat] at hh
  refine Calls.mono hh fun e w ⟨he, hb⟩ => ⟨_, he, ?_, Ext.of_below hb⟩
  simp [S, o4_]
 ·cases hF
def mz_ : Con te := ak_ te [.d .str, .d (.int .i64)] [(.str, [])] false fun a => strings_Repeat a.1 a.2.1
theorem k0_ : Con.OK Tryz.prog te 183 mz_ ∧ bT_ Tryz.prog 183 = true := by
 refine ⟨fun R a k r hr => ?_, by kernel_rfl⟩
 obtain ⟨y, h1, h2⟩ := bind_some hr
 exact ⟨_, _, h2, nz_ (y := y) rfl rfl rfl rfl rfl fun w => n1_ a.1 a.2.1 y h1 w⟩
end Go.Proofs.YtolgkhjkdadhiaaGreat
namespace Go.Proofs.YtolgkhjkdadhiaaGreat
open Go.Rt Go.RowKit
noncomputable section
def c_17 : Con te := ak_ te [.d (.st 2)] [(.bool, [])] false fun a => fe_ a.1
theorem ok_17 : OKF 17 c_17 := ⟨af_ ai_ ag_ Tryz.func17 (by kernel_rfl) (pl := .s .p (.s .p (.s (.s .p (.lp ⟨[(54, .d (.int .i64))], [], [1, 53], [0], [], 35018⟩ ⟨[], [], [1], [0], [], 35018⟩ true .p)) .p))) fun _ => by kernel_rfl, by kernel_rfl⟩
def c_10 : Con te := ak_ te [.d (.st 4)] [(.bool, [])] false fun a => ip_ a.1
theorem ok_10 : OKF 10 c_10 := ⟨af_ ai_ (ae_ ok_17 ag_) Tryz.func10 (by kernel_rfl) (pl := .s .p (.s .p (.s (.s .p (.lp ⟨[(29, .d (.int .i64))], [], [1, 28], [0], [], 15014⟩ ⟨[], [], [], [], [], 15014⟩ true .p)) .p))) fun _ => by kernel_rfl, by kernel_rfl⟩
def c_15 : Con te := ak_ te [] [(.st 4, [])] true fun _ => rpc_New
theorem ok_15 : OKF 15 c_15 := ⟨af_ ai_ ag_ Tryz.func15 (by kernel_rfl) (pl := .p) fun _ => by kernel_rfl, by kernel_rfl⟩
def c_74 : Con te := ak_ te [.d (.sl .str)] [(.sl .str, [some 9])] false fun a => du_ a.1
theorem ok_74 : OKF 74 c_74 := ⟨af_ ai_ ag_ Tryz.func74 (by kernel_rfl) (pl := .p) fun _ => by kernel_rfl, by kernel_rfl⟩
def c_75 : Con te := ak_ te [.d (.sl (.st 0))] [(.sl (.st 0), [some 33])] false fun a => dv_ a.1
theorem ok_75 : OKF 75 c_75 := ⟨af_ ai_ ag_ Tryz.func75 (by kernel_rfl) (pl := .p) fun _ => by kernel_rfl, by kernel_rfl⟩
def c_42 : Con te := ak_ te [.d (.st 2)] [(.st 2, [])] true fun a => iE_ a.1
theorem ok_42 : OKF 42 c_42 := ⟨af_ ai_ (ae_ ok_75 (ae_ ok_74 ag_)) Tryz.func42 (by kernel_rfl) (pl := .p) fun _ => by kernel_rfl, by kernel_rfl⟩
def c_70 : Con te := ak_ te [.d (.sl (.int .i64))] [(.sl (.int .i64), [some 3])] false fun a => fs_ a.1
theorem ok_70 : OKF 70 c_70 := ⟨af_ ai_ ag_ Tryz.func70 (by kernel_rfl) (pl := .p) fun _ => by kernel_rfl, by kernel_rfl⟩
def c_39 : Con te := ak_ te [.d (.st 4)] [(.st 4, [none, none, none, some 3, some 63])] true fun a => f1_ a.1
theorem ok_39 : OKF 39 c_39 := ⟨af_ ai_ (ae_ ok_70 (ae_ ok_42 ag_)) Tryz.func39 (by kernel_rfl) (pl := .s .p (.s .p (.s (.s .p (.lp ⟨[(3, .one (.own 14)), (13, .d (.int .i64))], [(14, false, .row 63 (.st 3) [])], [1, 2, 11, 12], [0, 2], [], 15⟩ ⟨[(3, .one (.own 14))], [(14, false, .row 63 (.st 3) [])], [1, 2], [0, 2], [], 15⟩ false (.s .p (.s .p (.s (.s .p (.dr [0, 0, 0, 1, 0, 0, 4, 1, 2, 4] [4, 5] false [])) .p))))) .p))) fun _ => by kernel_rfl, by kernel_rfl⟩
def c_71 : Con te := ak_ te [.d (.int .i64)] [(.str, [])] false fun a => bv_ a.1
theorem ok_71 : OKF 71 c_71 := ⟨af_ ai_ ag_ Tryz.func71 (by kernel_rfl) (pl := .p) fun _ => by kernel_rfl, by kernel_rfl⟩
def c_40 : Con te := ak_ te [.d (.int .i64)] [(.bool, [])] false fun a => eg_ a.1
theorem ok_40 : OKF 40 c_40 := ⟨af_ ai_ (ae_ ok_71 ag_) Tryz.func40 (by kernel_rfl) (pl := .p) fun _ => by kernel_rfl, by kernel_rfl⟩
def c_76 : Con te := ak_ te [.d (.sl (.st 3)), .f1 (.st 3) .bool] [(.int .i64, [])] false fun a => bg_ a.1 a.2.1
theorem ok_76 : OKF 76 c_76 := ⟨af_ ai_ ag_ Tryz.func76 (by kernel_rfl) (pl := .s .p (.s (.s .p (.lp ⟨[(8, .d (.int .i64))], [], [0, 1, 7], [], [], 4⟩ ⟨[], [], [], [], [], 4⟩ true .p)) .p)) fun _ => by kernel_rfl, by kernel_rfl⟩
def c_72 : Con te := ak_ te [.d (.sl (.st 3)), .f1 (.st 3) .bool] [(.bool, [])] false fun a => ch_ a.1 a.2.1
theorem ok_72 : OKF 72 c_72 := ⟨af_ ai_ (ae_ ok_76 ag_) Tryz.func72 (by kernel_rfl) (pl := .p) fun _ => by kernel_rfl, by kernel_rfl⟩
def c_73 : Con te := ak_ te [.d (.st 3)] [(.bool, [])] false fun a => jM_ a.1
theorem ok_73 : OKF 73 c_73 := ⟨af_ ai_ ag_ Tryz.func73 (by kernel_rfl) (pl := .p) fun _ => by kernel_rfl, by kernel_rfl⟩
def c_41 : Con te := ak_ te [.d (.sl (.st 3))] [(.bool, [])] false fun a => f2_ a.1
theorem ok_41 : OKF 41 c_41 := ⟨af_ ai_ (ae_ ok_73 (ae_ ok_72 ag_)) Tryz.func41 (by kernel_rfl) (pl := .p) fun _ => by kernel_rfl, by kernel_rfl⟩
def c_77 : Con te := ak_ te [.d (.st 3), .p (.int .i64)] [(.bool, [])] false fun a => nA_ a.1 a.2.1
theorem ok_77 : OKF 77 c_77 := ⟨af_ ai_ ag_ Tryz.func77 (by kernel_rfl) (pl := .p) fun _ => by kernel_rfl, by kernel_rfl⟩
def c_48 : Con te := ak_ te [.d (.sl (.st 3)), .d (.int .i64)] [(.int .i64, [])] false fun a => d2_ a.1 a.2.1
theorem ok_48 : OKF 48 c_48 := ⟨af_ ai_ (ae_ ok_77 (ae_ ok_76 ag_)) Tryz.func48 (by kernel_rfl) (pl := .p) fun _ => by kernel_rfl, by kernel_rfl⟩
def c_107 : Con te := ak_ te [.d (.st 3), .p (.int .i64)] [(.bool, [])] false fun a => l0_ a.1 a.2.1
theorem ok_107 : OKF 107 c_107 := ⟨af_ ai_ ag_ Tryz.func107 (by kernel_rfl) (pl := .p) fun _ => by kernel_rfl, by kernel_rfl⟩
def c_64 : Con te := ak_ te [.d (.sl (.st 3)), .d (.int .i64)] [(.int .i64, [])] false fun a => ff_ a.1 a.2.1
theorem ok_64 : OKF 64 c_64 := ⟨af_ ai_ (ae_ ok_107 (ae_ ok_76 ag_)) Tryz.func64 (by kernel_rfl) (pl := .p) fun _ => by kernel_rfl, by kernel_rfl⟩
def c_43 : Con te := ak_ te [.d (.sl (.st 3))] [(.int .i64, [])] false fun a => lz_ a.1
theorem ok_43 : OKF 43 c_43 := ⟨af_ ai_ (ae_ ok_64 (ae_ ok_48 ag_)) Tryz.func43 (by kernel_rfl) (pl := .s .p (.s .p (.s (.lp ⟨[(3, .d (.int .i64))], [], [0], [], [], 2⟩ ⟨[(3, .d (.int .i64))], [], [], [], [], 2⟩ false .p) .p))) fun _ => by kernel_rfl, by kernel_rfl⟩
def c_103 : Con te := ak_ te [.d (.st 2)] [(.bool, [])] false fun a => cp_ a.1
theorem ok_103 : OKF 103 c_103 := ⟨af_ ai_ ag_ Tryz.func103 (by kernel_rfl) (pl := .s .p (.s (.s .p (.j ⟨[(5, .d .bool)], [], [1, 4], [0], [], 5⟩ false .p .p)) .p)) fun _ => by kernel_rfl, by kernel_rfl⟩
def c_139 : Con te := ak_ te [.d (.st 2), .d (.st 2)] [(.st 2, [])] true fun a => msg_rest a.1 a.2.1
theorem ok_139 : OKF 139 c_139 := ⟨af_ ai_ ag_ Tryz.func139 (by kernel_rfl) (pl := .s .p (.j ⟨[], [(2, true, .box 38 (.st 2))], [3, 4], [4], [], 6⟩ false (.s .p (.s .p (.s (.dr [0, 0, 0, 0, 0, 0, 0, 1, 4, 1, 4, 1] [] true [2]) (.s .p (.s .p (.s .p (.s (.dr [0, 0, 0, 0, 0, 0, 0, 1, 4, 1, 4, 1] [] true [2]) (.s .p (.s .p (.j ⟨[(39, .d .bool)], [], [2, 3, 4, 6], [0, 2, 4], [], 16⟩ false .p (.s .p (.s .p (.s .p (.s .p (.s (.dr [0, 0, 0, 0, 0, 1, 4, 1] [] true [2]) (.s .p (.s (.dr [0, 0, 0, 0, 0, 0, 0, 1, 4, 1, 4, 1] [] true [2]) (.s .p (.s (.dr [0, 0, 0, 0, 0, 0, 0, 1, 4, 1, 4, 1] [] true [2]) .p))))))))))))))))))) .p)) fun _ => by kernel_rfl, by kernel_rfl⟩
def c_105 : Con te := ak_ te [.d (.st 2)] [(.st 2, [])] true fun a => fH_ a.1
theorem ok_105 : OKF 105 c_105 := ⟨af_ ai_ (ae_ ok_139 ag_) Tryz.func105 (by kernel_rfl) (pl := .s .p (.s .p (.j ⟨[], [(9, true, .box 38 (.st 2))], [2, 3], [2], [], 13⟩ true (.s .p (.s .p (.s (.dr [0, 0, 0, 0, 0, 1, 4, 1] [] true [9]) (.s .p (.s (.dr [0, 0, 0, 0, 0, 0, 0, 1, 4, 1, 4, 1] [] true [9]) (.s .p (.s (.dr [0, 0, 0, 0, 0, 0, 0, 1, 4, 1, 4, 1] [] true [9]) (.s .p (.s (.dr [0, 0, 0, 0, 0, 0, 0, 0, 0, 1, 4, 1, 4, 1, 4, 1] [] true [9]) (.j ⟨[(58, .d .bool)], [], [1, 2, 3, 10], [0, 2, 9], [], 23⟩ false .p (.s .p (.s .p (.s .p (.s .p (.s .p (.s .p (.s (.dr [0, 0, 0, 0, 0, 0, 0, 1, 4, 1, 4, 1] [] true [9]) (.s .p (.s .p (.s .p (.s (.dr [0, 0, 0, 0, 0, 1, 4, 1] [] true [9]) (.j ⟨[(98, .d .bool)], [], [1, 2, 3, 10], [0, 2, 9], [], 33⟩ false .p (.s (.dr [0, 0, 0, 0, 0, 1, 4, 1] [] true [9]) (.s .p (.s (.dr [0, 0, 0, 0, 0, 0, 0, 0, 0, 1, 4, 1, 4, 1, 4, 1] [] true [9]) .p))))))))))))))))))))))))) .p))) fun _ => by kernel_rfl, by kernel_rfl⟩
def c_135 : Con te := ak_ te [.d (.st 2)] [(.st 5, [])] false fun a => jd_ a.1
theorem ok_135 : OKF 135 c_135 := ⟨af_ ai_ ag_ Tryz.func135 (by kernel_rfl) (pl := .p) fun _ => by kernel_rfl, by kernel_rfl⟩
def c_136 : Con te := ak_ te [.d (.st 2)] [(.st 6, [])] false fun a => je_ a.1
theorem ok_136 : OKF 136 c_136 := ⟨af_ ai_ ag_ Tryz.func136 (by kernel_rfl) (pl := .p) fun _ => by kernel_rfl, by kernel_rfl⟩
def c_137 : Con te := ak_ te [.d (.sl .str), .d (.sl .str)] [(.bool, [])] false fun a => cC_ a.1 a.2.1
theorem ok_137 : OKF 137 c_137 := ⟨af_ ai_ ag_ Tryz.func137 (by kernel_rfl) (pl := .s .p (.s .p (.s (.s .p (.lp ⟨[(13, .d (.int .i64))], [], [0, 1, 12], [], [], 9⟩ ⟨[], [], [], [], [], 9⟩ true (.s .p (.s .p (.s (.s .p (.s (.dr [0, 0, 0, 0, 0, 0, 0, 0, 0] [] false []) .p)) .p))))) .p))) fun _ => by kernel_rfl, by kernel_rfl⟩
def c_138 : Con te := ak_ te [.d (.sl (.st 0)), .d (.sl (.st 0))] [(.bool, [])] false fun a => cD_ a.1 a.2.1
theorem ok_138 : OKF 138 c_138 := ⟨af_ ai_ ag_ Tryz.func138 (by kernel_rfl) (pl := .s .p (.s .p (.s (.s .p (.lp ⟨[(13, .d (.int .i64))], [], [0, 1, 12], [], [], 9⟩ ⟨[], [], [], [], [], 9⟩ true (.s .p (.s .p (.s (.s .p (.s (.dr [0, 0, 0, 0, 0, 0, 0, 0, 0] [] false []) .p)) .p))))) .p))) fun _ => by kernel_rfl, by kernel_rfl⟩
def c_104 : Con te := ak_ te [.d (.st 2), .d (.st 2)] [(.bool, [])] false fun a => jN_ a.1 a.2.1
theorem ok_104 : OKF 104 c_104 := ⟨af_ ai_ (ae_ ok_138 (ae_ ok_137 (ae_ ok_136 (ae_ ok_135 ag_)))) Tryz.func104 (by kernel_rfl) (pl := .s .p (.s .p (.s .p (.s (.dr [0, 0, 0, 0, 0, 0, 0, 0, 0, 0, 0, 0, 0, 0, 0, 0, 0, 0, 0, 0, 0, 0, 0, 0, 0, 0, 0, 0, 0, 0, 0, 0, 0, 0, 0, 0, 0, 0, 0, 0, 0, 0, 0, 0, 0, 0, 0, 0, 0, 0, 0, 0, 0, 0, 0, 0, 0, 0, 0] [] false []) .p)))) fun _ => by kernel_rfl, by kernel_rfl⟩
def c_141 : Con te := ak_ te [.d (.int .i64), .d (.int .i64), .d (.int .i64)] [(.int .i64, [])] false fun a => cW_ a.1 a.2.1 a.2.2.1
theorem ok_141 : OKF 141 c_141 := ⟨af_ ai_ ag_ Tryz.func141 (by kernel_rfl) (pl := .p) fun _ => by kernel_rfl, by kernel_rfl⟩
def c_142 : Con te := ak_ te [.d .str, .d (.int .i64)] [(.int .i64, [])] false fun a => dd_ a.1 a.2.1
theorem ok_142 : OKF 142 c_142 := ⟨af_ ai_ ag_ Tryz.func142 (by kernel_rfl) (pl := .p) fun _ => by kernel_rfl, by kernel_rfl⟩
def c_140 : Con te := ak_ te [.d (.sl (.int .i64))] [(.int .i64, [])] false fun a => cj_ a.1
theorem ok_140 : OKF 140 c_140 := ⟨af_ ai_ ag_ Tryz.func140 (by kernel_rfl) (pl := .s .p (.s (.s .p (.lp ⟨[(7, .d (.int .i64))], [], [5, 6], [], [], 4⟩ ⟨[], [], [], [], [], 4⟩ true .p)) .p)) fun _ => by kernel_rfl, by kernel_rfl⟩
def c_143 : Con te := ak_ te [.d (.int .i64)] [(.int .i64, [])] false fun a => dF_ a.1
theorem ok_143 : OKF 143 c_143 := ⟨af_ ai_ (ae_ ok_141 ag_) Tryz.func143 (by kernel_rfl) (pl := .p) fun _ => by kernel_rfl, by kernel_rfl⟩
def c_144 : Con te := ak_ te [.d (.st 0)] [(.int .i64, [])] false fun a => ju_ a.1
theorem ok_144 : OKF 144 c_144 := ⟨af_ ai_ (ae_ ok_140 (ae_ ok_141 ag_)) Tryz.func144 (by kernel_rfl) (pl := .s .p (.s .p (.s (.dr [0, 0, 0, 0, 0, 0, 1, 1, 4] [] false []) .p))) fun _ => by kernel_rfl, by kernel_rfl⟩
def c_168 : Con te := ak_ te [.d .str] [(.bool, [])] false fun a => f3_ a.1
theorem ok_168 : OKF 168 c_168 := ⟨af_ ai_ ag_ Tryz.func168 (by kernel_rfl) (pl := .s .p (.s .p (.s (.s .p (.lp ⟨[(21, .d (.int .i64))], [], [0, 20], [], [], 10009⟩ ⟨[], [], [], [], [], 10009⟩ true .p)) .p))) fun _ => by kernel_rfl, by kernel_rfl⟩
def c_145 : Con te := ak_ te [.d (.sl .str)] [(.int .i64, [])] false fun a => kj_ a.1
theorem ok_145 : OKF 145 c_145 := ⟨af_ ai_ (ae_ ok_168 ag_) Tryz.func145 (by kernel_rfl) (pl := .s .p (.s .p (.s (.s .p (.lp ⟨[(10, .d (.int .i64))], [], [8, 9], [], [], 7⟩ ⟨[], [], [], [], [], 7⟩ true .p)) .p))) fun _ => by kernel_rfl, by kernel_rfl⟩
def c_146 : Con te := ak_ te [.d (.sl (.st 0))] [(.int .i64, [])] false fun a => lA_ a.1
theorem ok_146 : OKF 146 c_146 := ⟨af_ ai_ (ae_ ok_144 ag_) Tryz.func146 (by kernel_rfl) (pl := .s .p (.s .p (.s (.s .p (.lp ⟨[(11, .d (.int .i64))], [], [9, 10], [], [], 7⟩ ⟨[], [], [], [], [], 7⟩ true .p)) .p))) fun _ => by kernel_rfl, by kernel_rfl⟩
def c_147 : Con te := ak_ te [.d .str] [(.int .i64, [])] false fun a => kk_ a.1
theorem ok_147 : OKF 147 c_147 := ⟨af_ ai_ (ae_ ok_168 ag_) Tryz.func147 (by kernel_rfl) (pl := .p) fun _ => by kernel_rfl, by kernel_rfl⟩
def c_169 : Con te := ak_ te [.d (.st 1)] [(.sl (.st 7), [some 182])] false fun a => ho_ a.1
theorem ok_169 : OKF 169 c_169 := ⟨af_ ai_ ag_ Tryz.func169 (by kernel_rfl) (pl := .p) fun _ => by kernel_rfl, by kernel_rfl⟩
def c_170 : Con te := ak_ te [.d (.int .i64), .d (.int .i64)] [(.bool, [])] false fun a => eh_ a.1 a.2.1
theorem ok_170 : OKF 170 c_170 := ⟨af_ ai_ ag_ Tryz.func170 (by kernel_rfl) (pl := .p) fun _ => by kernel_rfl, by kernel_rfl⟩
def c_148 : Con te := ak_ te [.d (.st 1)] [(.int .i64, [])] false fun a => f4_ a.1
theorem ok_148 : OKF 148 c_148 := ⟨af_ ai_ (ae_ ok_168 (ae_ ok_170 (ae_ ok_169 ag_))) Tryz.func148 (by kernel_rfl) (pl := .s .p (.s (.s .p (.lp ⟨[(8, .d (.int .i64))], [(4, true, .row 182 (.st 7) [])], [1, 6, 7], [0], [], 8⟩ ⟨[], [], [1], [0], [], 8⟩ true .p)) .p)) fun _ => by kernel_rfl, by kernel_rfl⟩
def c_106 : Con te := ak_ te [.d (.st 2)] [(.int .i64, [])] false fun a => ad_ a.1
theorem ok_106 : OKF 106 c_106 := ⟨af_ ai_ (ae_ ok_148 (ae_ ok_147 (ae_ ok_146 (ae_ ok_145 (ae_ ok_144 (ae_ ok_143 (ae_ ok_140 (ae_ ok_142 (ae_ ok_141 ag_))))))))) Tryz.func106 (by kernel_rfl) (pl := .s .p (.s (.s .p (.j ⟨[(5, .d .bool)], [], [1, 4], [0], [], 5⟩ false .p (.s (.s (.dr [0, 0, 0, 0, 0, 0, 0, 0, 0, 1, 1, 4] [] false []) .p) (.s .p (.s (.s (.dr [0, 0, 0, 0, 0, 0, 0, 0, 0, 1, 1, 4] [] false []) .p) (.s .p (.s (.s (.dr [0, 0, 0, 0, 0, 0, 0, 0, 0, 0, 0, 0, 1, 1, 4] [] false []) .p) (.j ⟨[(48, .d .bool)], [], [1, 4], [0], [], 9⟩ false .p (.s (.s (.dr [0, 0, 0, 0, 0, 0, 1, 1, 4] [] false []) .p) (.s .p (.s .p (.s .p (.s .p (.s .p (.s (.s (.dr [0, 0, 0, 0, 0, 0, 0, 0, 0, 1, 1, 4] [] false []) .p) (.s .p (.s .p (.s .p (.s (.s (.dr [0, 0, 0, 0, 0, 0, 1, 1, 4] [] false []) .p) (.s .p (.s (.s (.dr [0, 0, 0, 0, 0, 0, 0, 0, 0, 0, 0, 0, 1, 1, 4] [] false []) .p) (.j ⟨[(115, .d .bool)], [], [1, 4], [0], [], 21⟩ false .p (.s (.s (.dr [0, 0, 0, 0, 0, 0, 0, 0, 0, 0, 0, 0, 1, 1, 4] [] false []) .p) (.j ⟨[(134, .d .bool)], [], [1, 4], [0], [], 21⟩ false .p (.s (.s (.dr [0, 0, 0, 0, 0, 0, 1, 1, 4] [] false []) .p) (.j ⟨[(145, .d .bool)], [], [1, 4], [0], [], 21⟩ false .p (.s (.s (.dr [0, 0, 0, 0, 0, 0, 0, 0, 0, 0, 0, 0, 1, 1, 4] [] false []) .p) .p))))))))))))))))))))))))))) .p)) fun _ => by kernel_rfl, by kernel_rfl⟩
def c_63 : Con te := ak_ te [.d (.st 2)] [(.int .i64, [])] false fun a => bh_ a.1
theorem ok_63 : OKF 63 c_63 := ⟨af_ ai_ (ae_ ok_106 (ae_ ok_104 (ae_ ok_105 (ae_ ok_103 (ae_ ok_71 ag_))))) Tryz.func63 (by kernel_rfl) (pl := .s .p (.s (.s .p (.s .p (.s .p (.s .p (.s (.dr [0, 1, 0, 1, 4, 4] [2] false []) .p))))) .p)) fun _ => by kernel_rfl, by kernel_rfl⟩
def c_81 : Con te := ak_ te [.d (.int .i64), .d (.int .i64)] [(.str, []), (.int .i64, [])] false fun a => d3_ a.1 a.2.1
theorem ok_81 : OKF 81 c_81 := ⟨af_ ai_ ag_ Tryz.func81 (by kernel_rfl) (pl := .s .p (.s .p (.s .p (.s .p (.s (.s .p (.lp ⟨[(31, .d (.int .i64))], [(13009, true, .row 5 (.int .u8) [])], [0, 6, 30], [], [], 13015⟩ ⟨[], [(13009, true, .row 5 (.int .u8) [])], [6], [], [], 13015⟩ false .p)) .p))))) fun _ => by kernel_rfl, by kernel_rfl⟩
def c_112 : Con te := ak_ te [.b 106 (.st 8), .d .str, .d (.int .i64)] [] false fun a => cJ_ a.1 a.2.1 a.2.2.1
theorem ok_112 : OKF 112 c_112 := ⟨af_ ai_ ag_ Tryz.func112 (by kernel_rfl) (pl := .p) fun _ => by kernel_rfl, by kernel_rfl⟩
def c_78 : Con te := ak_ te [.b 106 (.st 8), .d (.int .i64), .d (.int .i64)] [] false fun a => av_ a.1 a.2.1 a.2.2.1
theorem ok_78 : OKF 78 c_78 := ⟨af_ ai_ (ae_ ok_112 (ae_ ok_81 ag_)) Tryz.func78 (by kernel_rfl) (pl := .p) fun _ => by kernel_rfl, by kernel_rfl⟩
def c_79 : Con te := ak_ te [.d (.int .i64)] [(.str, [])] false fun a => bx_ a.1
theorem ok_79 : OKF 79 c_79 := ⟨af_ ai_ ag_ Tryz.func79 (by kernel_rfl) (pl := .s .p (.s (.s .p (.s .p (.s .p (.s .p (.s .p (.s .p (.s .p (.j ⟨[(10, .d .bool)], [], [3], [], [], 8⟩ false .p (.s .p (.s .p (.s .p (.s .p (.s .p (.s .p (.s .p (.s .p (.s .p (.s .p (.s .p (.s .p (.s .p (.j ⟨[(25, .d .bool)], [], [3], [], [], 20⟩ false .p (.s .p (.s .p (.s .p (.s .p (.s .p (.s .p (.s .p (.s .p (.s .p (.s .p (.s .p (.j ⟨[(38, .d .bool)], [], [3], [], [], 30⟩ false .p .p)))))))))))))))))))))))))))))))))) .p)) fun _ => by kernel_rfl, by kernel_rfl⟩
def c_159 : Con te := ak_ te [.d .str] [(.str, []), (.int .i64, [])] false fun a => e6_ a.1
theorem ok_159 : OKF 159 c_159 := ⟨af_ ai_ (ae_ ok_81 ag_) Tryz.func159 (by kernel_rfl) (pl := .p) fun _ => by kernel_rfl, by kernel_rfl⟩
def c_113 : Con te := ak_ te [.b 106 (.st 8), .d .str] [] false fun a => bJ_ a.1 a.2.1
theorem ok_113 : OKF 113 c_113 := ⟨af_ ai_ (ae_ ok_112 (ae_ ok_159 ag_)) Tryz.func113 (by kernel_rfl) (pl := .p) fun _ => by kernel_rfl, by kernel_rfl⟩
def c_114 : Con te := ak_ te [.b 106 (.st 8), .d (.st 0)] [] false fun a => d4_ a.1 a.2.1
theorem ok_114 : OKF 114 c_114 := ⟨af_ ai_ (ae_ ok_78 ag_) Tryz.func114 (by kernel_rfl) (pl := .p) fun _ => by kernel_rfl, by kernel_rfl⟩
def c_160 : Con te := ak_ te [.d (.int .i64)] [(.str, [])] false fun a => kl_ a.1
theorem ok_160 : OKF 160 c_160 := ⟨af_ ai_ ag_ Tryz.func160 (by kernel_rfl) (pl := .p) fun _ => by kernel_rfl, by kernel_rfl⟩
def c_161 : Con te := ak_ te [.d (.int .i64)] [(.str, [])] false fun a => jf_ a.1
theorem ok_161 : OKF 161 c_161 := ⟨af_ ai_ ag_ Tryz.func161 (by kernel_rfl) (pl := .p) fun _ => by kernel_rfl, by kernel_rfl⟩
def c_115 : Con te := ak_ te [.d (.int .i64)] [(.str, [])] false fun a => eP_ a.1
theorem ok_115 : OKF 115 c_115 := ⟨af_ ai_ (ae_ ok_161 (ae_ ok_160 ag_)) Tryz.func115 (by kernel_rfl) (pl := .p) fun _ => by kernel_rfl, by kernel_rfl⟩
def c_116 : Con te := ak_ te [.b 106 (.st 8), .d (.sl .str)] [] false fun a => eq_ a.1 a.2.1
theorem ok_116 : OKF 116 c_116 := ⟨af_ ai_ (ae_ ok_113 (ae_ ok_78 ag_)) Tryz.func116 (by kernel_rfl) (pl := .s .p (.s .p (.lp ⟨[(12, .d (.int .i64))], [(0, true, .box 106 (.st 8))], [0, 10, 11], [], [], 10⟩ ⟨[], [(0, true, .box 106 (.st 8))], [], [], [], 10⟩ false .p))) fun _ => by kernel_rfl, by kernel_rfl⟩
def c_117 : Con te := ak_ te [.b 106 (.st 8), .d (.sl (.st 0))] [] false fun a => eQ_ a.1 a.2.1
theorem ok_117 : OKF 117 c_117 := ⟨af_ ai_ (ae_ ok_114 (ae_ ok_78 ag_)) Tryz.func117 (by kernel_rfl) (pl := .s .p (.s .p (.lp ⟨[(12, .d (.int .i64))], [(0, true, .box 106 (.st 8))], [0, 10, 11], [], [], 10⟩ ⟨[], [(0, true, .box 106 (.st 8))], [], [], [], 10⟩ false .p))) fun _ => by kernel_rfl, by kernel_rfl⟩
def c_118 : Con te := ak_ te [.b 106 (.st 8), .d .str, .d (.int .i64)] [] false fun a => dK_ a.1 a.2.1 a.2.2.1
theorem ok_118 : OKF 118 c_118 := ⟨af_ ai_ (ae_ ok_112 (ae_ ok_78 ag_)) Tryz.func118 (by kernel_rfl) (pl := .p) fun _ => by kernel_rfl, by kernel_rfl⟩
def c_178 : Con te := ak_ te [.d (.st 7)] [(.str, [])] false fun a => jQ_ a.1
theorem ok_178 : OKF 178 c_178 := ⟨af_ ai_ (ae_ ok_81 (ae_ k0_ ag_)) Tryz.func178 (by kernel_rfl) (pl := .p) fun _ => by kernel_rfl, by kernel_rfl⟩
def c_162 : Con te := ak_ te [.d (.st 1)] [(.str, []), (.int .i64, [])] false fun a => lB_ a.1
theorem ok_162 : OKF 162 c_162 := ⟨af_ ai_ (ae_ ok_81 (ae_ ok_159 (ae_ ok_178 (ae_ ok_169 (ae_ ok_148 ag_))))) Tryz.func162 (by kernel_rfl) (pl := .s .p (.s .p (.s .p (.s (.s .p (.lp ⟨[(5, .d .str), (22, .d (.int .i64))], [(11, true, .row 182 (.st 7) [])], [1, 20, 21], [0], [], 15⟩ ⟨[(5, .d .str)], [], [1], [0], [], 15⟩ false .p)) (.s (.s .p (.lp ⟨[(5, .d .str), (41, .d (.int .i64))], [(23, true, .row 9 .str [])], [39, 40], [], [], 27⟩ ⟨[(5, .d .str)], [], [], [], [], 27⟩ true .p)) .p))))) fun _ => by kernel_rfl, by kernel_rfl⟩
def c_119 : Con te := ak_ te [.b 106 (.st 8), .d (.st 1)] [] false fun a => eR_ a.1 a.2.1
theorem ok_119 : OKF 119 c_119 := ⟨af_ ai_ (ae_ ok_118 (ae_ ok_112 (ae_ ok_162 ag_))) Tryz.func119 (by kernel_rfl) (pl := .p) fun _ => by kernel_rfl, by kernel_rfl⟩
def c_80 : Con te := ak_ te [.b 106 (.st 8), .d (.st 2), .d (.int .u8)] [] false fun a => er_ a.1 a.2.1 a.2.2.1
theorem ok_80 : OKF 80 c_80 := ⟨af_ ai_ (ae_ ok_119 (ae_ ok_118 (ae_ ok_117 (ae_ ok_116 (ae_ ok_115 (ae_ ok_114 (ae_ ok_113 (ae_ ok_78 ag_)))))))) Tryz.func80 (by kernel_rfl) (pl := .p) fun _ => by kernel_rfl, by kernel_rfl⟩
def c_49 : Con te := ak_ te [.d (.st 2)] [(.str, []), (.int .i64, [])] false fun a => eS_ a.1
theorem ok_49 : OKF 49 c_49 := ⟨af_ ai_ (ae_ ok_81 (ae_ ok_80 (ae_ ok_79 (ae_ ok_78 (ae_ ok_63 ag_))))) Tryz.func49 (by kernel_rfl) (pl := .s .p (.s .p (.s .p (.s .p (.s .p (.s .p (.s (.s .p (.lp ⟨[(30, .d (.int .i64))], [(10, true, .box 106 (.st 8))], [1, 5, 6, 29], [0], [], 32⟩ ⟨[], [(10, true, .box 106 (.st 8))], [5], [], [], 32⟩ false (.s .p (.s .p (.s (.s .p (.dr [0, 0, 0, 0, 0, 2] [] false [])) .p))))) (.s (.s .p (.s (.s (.dr [0, 0, 0, 0, 0, 0] [] false []) .p) .p)) .p)))))))) fun _ => by kernel_rfl, by kernel_rfl⟩
def c_44 : Con te := ak_ te [.d (.st 4), .d (.st 2)] [(.str, []), (.int .i64, [])] false fun a => is_ a.1 a.2.1
theorem ok_44 : OKF 44 c_44 := ⟨af_ ai_ (ae_ ok_49 ag_) Tryz.func44 (by kernel_rfl) (pl := .p) fun _ => by kernel_rfl, by kernel_rfl⟩
def c_18 : Con te := ak_ te [.d (.st 4), .d (.st 2)] [(.st 4, []), (.int .i64, []), (.str, []), (.int .i64, [])] true fun a => km_ a.1 a.2.1
theorem ok_18 : OKF 18 c_18 := ⟨af_ ai_ (ae_ ok_44 (ae_ ok_43 (ae_ ok_42 (ae_ ok_41 (ae_ ok_40 (ae_ ok_39 ag_)))))) Tryz.func18 (by kernel_rfl) (pl := .s .p (.s .p (.s .p (.s .p (.s .p (.s .p (.j ⟨[], [(12043, true, .box 38 (.st 2))], [2, 4, 8, 10], [0, 4, 10, 11, 13], [], 12050⟩ false .p (.s .p (.s .p (.s .p (.s (.dr [0, 0, 0, 0, 1, 4, 4, 4] [] true [4]) .p))))))))))) fun _ => by kernel_rfl, by kernel_rfl⟩
def c_20 : Con te := ak_ te [.d (.st 4), .d (.int .i64)] [(.st 4, []), (.int .i64, []), (.str, []), (.int .i64, [])] true fun a => kn_ a.1 a.2.1
theorem ok_20 : OKF 20 c_20 := ⟨af_ ai_ (ae_ ok_49 (ae_ ok_43 (ae_ ok_48 (ae_ ok_39 ag_)))) Tryz.func20 (by kernel_rfl) (pl := .s .p (.s .p (.s .p (.s .p (.s .p (.s .p (.s .p (.s .p (.s (.dr [0, 0, 0, 0, 1, 4, 4, 4] [] true [2]) .p))))))))) fun _ => by kernel_rfl, by kernel_rfl⟩
def c_65 : Con te := ak_ te [.d .str, .d (.int .i64), .d (.int .i64)] [(.int .i64, []), (.int .i64, []), (.int .i64, [])] false fun a => cP_ a.1 a.2.1 a.2.2.1
theorem ok_65 : OKF 65 c_65 := ⟨af_ ai_ ag_ Tryz.func65 (by kernel_rfl) (pl := .s .p (.s .p (.s .p (.s .p (.s (.s .p (.lp ⟨[(9, .d (.int .u64)), (10, .d (.int .i64))], [], [0, 1, 2], [], [], 11018⟩ ⟨[(9, .d (.int .u64))], [], [1, 2], [], [], 11018⟩ false .p)) .p))))) fun _ => by kernel_rfl, by kernel_rfl⟩
def c_108 : Con te := ak_ te [.b 127 (.st 9), .d (.int .i64)] [(.int .i64, [])] false fun a => al_ a.1 a.2.1
theorem k1_ : OKF 108 c_108 := ⟨af_ ai_ (ae_ ok_65 ag_) Tryz.func108 (by kernel_rfl) (pl := .s .p (.s .p (.s (.dr [0, 0, 0, 0, 0, 0, 0, 0, 0, 0, 0, 0, 0, 0, 0, 0, 0] [] false []) .p))) fun _ => by kernel_rfl, by kernel_rfl⟩
def c_171 : Con te := ak_ te [.d .str, .d (.int .i64)] [(.str, []), (.int .i64, []), (.int .i64, [])] false fun a => e7_ a.1 a.2.1
theorem ok_171 : OKF 171 c_171 := ⟨af_ ai_ (ae_ ok_65 ag_) Tryz.func171 (by kernel_rfl) (pl := .p) fun _ => by kernel_rfl, by kernel_rfl⟩
def c_149 : Con te := ak_ te [.b 127 (.st 9)] [(.str, [])] false fun a => aE_ a.1
theorem ok_149 : OKF 149 c_149 := ⟨af_ ai_ (ae_ ok_171 ag_) Tryz.func149 (by kernel_rfl) (pl := .s .p (.s .p (.s (.dr [0, 0, 0, 0, 0, 0, 0, 0, 0, 0, 0, 0, 0, 0, 0, 0] [] false []) .p))) fun _ => by kernel_rfl, by kernel_rfl⟩
def c_150 : Con te := ak_ te [.b 127 (.st 9)] [(.st 0, [])] false fun a => bo_ a.1
theorem ok_150 : OKF 150 c_150 := ⟨af_ ai_ (ae_ k1_ ag_) Tryz.func150 (by kernel_rfl) (pl := .p) fun _ => by kernel_rfl, by kernel_rfl⟩
def c_172 : Con te := ak_ te [.d .str] [(.int .i64, []), (.bool, [])] false fun a => d5_ a.1
theorem ok_172 : OKF 172 c_172 := ⟨af_ ai_ (ae_ ok_115 ag_) Tryz.func172 (by kernel_rfl) (pl := .s .p (.s .p (.s (.s .p (.lp ⟨[(4, .d (.int .i64))], [], [0], [], [], 5⟩ ⟨[], [], [], [], [], 5⟩ true .p)) .p))) fun _ => by kernel_rfl, by kernel_rfl⟩
def c_151 : Con te := ak_ te [.b 127 (.st 9)] [(.int .i64, [])] false fun a => bN_ a.1
theorem ok_151 : OKF 151 c_151 := ⟨af_ ai_ (ae_ ok_172 (ae_ ok_149 ag_)) Tryz.func151 (by kernel_rfl) (pl := .p) fun _ => by kernel_rfl, by kernel_rfl⟩
def c_152 : Con te := ak_ te [.b 127 (.st 9)] [(.sl .str, [some 9])] false fun a => bs_ a.1
theorem ok_152 : OKF 152 c_152 := ⟨af_ ai_ (ae_ ok_149 (ae_ k1_ ag_)) Tryz.func152 (by kernel_rfl) (pl := .s .p (.s .p (.s (.s .p (.lp ⟨[(3, .one (.own 8)), (4, .d (.int .i64))], [(0, true, .box 127 (.st 9)), (8, false, .row 9 .str [])], [0], [], [], 9⟩ ⟨[(3, .one (.own 8))], [(8, false, .row 9 .str []), (0, true, .box 127 (.st 9))], [], [], [], 9⟩ false .p)) .p))) fun _ => by kernel_rfl, by kernel_rfl⟩
def c_153 : Con te := ak_ te [.b 127 (.st 9)] [(.sl (.st 0), [some 33])] false fun a => bD_ a.1
theorem ok_153 : OKF 153 c_153 := ⟨af_ ai_ (ae_ ok_150 (ae_ k1_ ag_)) Tryz.func153 (by kernel_rfl) (pl := .s .p (.s .p (.s (.s .p (.lp ⟨[(3, .one (.own 8)), (4, .d (.int .i64))], [(0, true, .box 127 (.st 9)), (8, false, .row 33 (.st 0) [])], [0], [], [], 9⟩ ⟨[(3, .one (.own 8))], [(8, false, .row 33 (.st 0) []), (0, true, .box 127 (.st 9))], [], [], [], 9⟩ false .p)) .p))) fun _ => by kernel_rfl, by kernel_rfl⟩
def c_154 : Con te := ak_ te [.b 127 (.st 9), .d (.int .i64)] [(.str, [])] false fun a => aT_ a.1 a.2.1
theorem ok_154 : OKF 154 c_154 := ⟨af_ ai_ (ae_ k1_ ag_) Tryz.func154 (by kernel_rfl) (pl := .s .p (.s .p (.s (.s (.dr [0, 0, 0, 0, 0, 0, 0, 0, 0, 0, 0, 0, 0, 0, 0, 0, 0, 0, 0] [] false []) .p) (.s .p (.s (.dr [0, 0, 0, 0, 0, 0, 0, 0, 0, 0, 0, 0, 0, 0, 0, 0] [] false []) .p))))) fun _ => by kernel_rfl, by kernel_rfl⟩
def c_186 : Con te := ak_ te [.b 194 (.st 10), .d (.int .i64)] [(.int .i64, [])] false fun a => aC_ a.1 a.2.1
theorem ok_186 : OKF 186 c_186 := ⟨af_ ai_ (ae_ ok_65 (ae_ lG_ ag_)) Tryz.func186 (by kernel_rfl) (pl := .s .p (.s (.s (.dr [0, 0, 0, 0, 0, 0, 0, 0, 0, 0, 0, 0, 0, 0, 0, 0, 0, 0, 0] [] false []) .p) (.s (.dr [0, 0, 0, 0, 0, 0, 0, 0, 0, 0, 0, 0, 0, 0, 0, 0] [] false []) .p))) fun _ => by kernel_rfl, by kernel_rfl⟩
def c_187 : Con te := ak_ te [.b 194 (.st 10)] [(.str, [])] false fun a => aW_ a.1
theorem ok_187 : OKF 187 c_187 := ⟨af_ ai_ (ae_ ok_171 ag_) Tryz.func187 (by kernel_rfl) (pl := .s .p (.s .p (.s (.dr [0, 0, 0, 0, 0, 0, 0, 0, 0, 0, 0, 0, 0, 0, 0, 0] [] false []) .p))) fun _ => by kernel_rfl, by kernel_rfl⟩
def c_180 : Con te := ak_ te [.b 194 (.st 10)] [(.st 1, [])] false fun a => b6_ a.1
theorem ok_180 : OKF 180 c_180 := ⟨af_ ai_ (ae_ ok_187 (ae_ ok_186 ag_)) Tryz.func180 (by kernel_rfl) (pl := .p) fun _ => by kernel_rfl, by kernel_rfl⟩
def c_173 : Con te := ak_ te [.d .str, .d (.int .i64)] [(.st 1, []), (.int .i64, []), (.int .i64, [])] false fun a => lC_ a.1 a.2.1
theorem ok_173 : OKF 173 c_173 := ⟨af_ ai_ (ae_ ok_148 (ae_ ok_180 (ae_ ok_65 ag_))) Tryz.func173 (by kernel_rfl) (pl := .p) fun _ => by kernel_rfl, by kernel_rfl⟩
def c_155 : Con te := ak_ te [.b 127 (.st 9)] [(.st 1, [])] false fun a => bE_ a.1
theorem ok_155 : OKF 155 c_155 := ⟨af_ ai_ (ae_ ok_173 (ae_ ok_154 ag_)) Tryz.func155 (by kernel_rfl) (pl := .p) fun _ => by kernel_rfl, by kernel_rfl⟩
def c_109 : Con te := ak_ te [.b 127 (.st 9), .b 38 (.st 2), .d (.int .u8)] [] true fun a => ah_ a.1 a.2.1 a.2.2.1
theorem ok_109 : OKF 109 c_109 := ⟨af_ ai_ (ae_ ok_155 (ae_ ok_154 (ae_ ok_153 (ae_ ok_152 (ae_ ok_151 (ae_ ok_150 (ae_ ok_149 (ae_ k1_ ag_)))))))) Tryz.func109 (by kernel_rfl) (pl := .p) fun _ => by kernel_rfl, by kernel_rfl⟩
def c_66 : Con te := ak_ te [.d .str, .d (.int .i64)] [(.st 2, []), (.int .i64, []), (.int .i64, [])] true fun a => cK_ a.1 a.2.1
theorem ok_66 : OKF 66 c_66 := ⟨af_ ai_ (ae_ ok_63 (ae_ ok_71 (ae_ ok_109 (ae_ ok_79 (ae_ k1_ (ae_ ok_65 ag_)))))) Tryz.func66 (by kernel_rfl) (pl := .s .p (.s .p (.s .p (.s .p (.s .p (.s .p (.s (.s .p (.lp ⟨[(61, .d (.int .i64))], [(37, true, .box 127 (.st 9)), (49, true, .box 38 (.st 2))], [1, 4, 7, 10, 11, 12, 60], [0], [], 60⟩ ⟨[], [(37, true, .box 127 (.st 9)), (49, true, .box 38 (.st 2))], [1, 4, 7, 10, 11], [0], [], 60⟩ false .p)) .p))))))) fun _ => by kernel_rfl, by kernel_rfl⟩
def c_35 : Con te := ak_ te [.d .str, .d (.int .i64)] [(.sl (.st 2), []), (.str, []), (.int .i64, [])] true fun a => bw_ a.1 a.2.1
theorem ok_35 : OKF 35 c_35 := ⟨af_ ai_ (ae_ ok_66 (ae_ ok_65 ag_)) Tryz.func35 (by kernel_rfl) (pl := .s .p (.s .p (.j ⟨[(7, .d (.int .i64))], [], [0], [], [], 5⟩ false .p (.s .p (.s (.lp ⟨[(0, .d .str), (8, .one (.own 6))], [(6, false, .row 38 (.st 2) [])], [7], [], [], 7⟩ ⟨[(0, .d .str), (8, .one (.own 6))], [(6, false, .row 38 (.st 2) [])], [], [], [], 7⟩ true (.s .p (.s .p (.s .p (.s .p (.s .p (.s .p (.dr [0, 0, 1, 2, 4, 4, 4, 4, 4] [4, 5, 6] false [])))))))) .p))))) fun _ => by kernel_rfl, by kernel_rfl⟩
def c_58 : Con te := ak_ te [.d (.st 2), .d (.int .i64)] [(.st 2, [])] true fun a => h1_ a.1 a.2.1
theorem ok_58 : OKF 58 c_58 := ⟨af_ ai_ ag_ Tryz.func58 (by kernel_rfl) (pl := .p) fun _ => by kernel_rfl, by kernel_rfl⟩
def c_27 : Con te := ak_ te [.d (.st 4)] [(.st 4, []), (.sl (.st 2), [])] true fun a => eT_ a.1
theorem ok_27 : OKF 27 c_27 := ⟨af_ ai_ (ae_ ok_58 (ae_ ok_39 ag_)) Tryz.func27 (by kernel_rfl) (pl := .s .p (.s .p (.s .p (.s .p (.s (.s .p (.lp ⟨[(5, .one (.own 21)), (17, .d (.int .i64))], [(21, false, .row 38 (.st 2) [])], [2, 4, 15, 16], [2, 6, 7, 9], [], 22⟩ ⟨[(5, .one (.own 21))], [(21, false, .row 38 (.st 2) [])], [2, 4], [2, 6, 7, 9], [], 22⟩ false .p)) .p))))) fun _ => by kernel_rfl, by kernel_rfl⟩
def c_120 : Con te := ak_ te [.d (.int .i64)] [(.int .i64, [])] false fun a => iF_ a.1
theorem ok_120 : OKF 120 c_120 := ⟨af_ ai_ (ae_ ok_40 ag_) Tryz.func120 (by kernel_rfl) (pl := .p) fun _ => by kernel_rfl, by kernel_rfl⟩
def c_82 : Con te := ak_ te [.d (.st 2), .d (.st 2)] [(.bool, [])] false fun a => cF_ a.1 a.2.1
theorem ok_82 : OKF 82 c_82 := ⟨af_ ai_ (ae_ ok_120 (ae_ ok_40 ag_)) Tryz.func82 (by kernel_rfl) (pl := .s .p (.s .p (.s .p (.s (.s (.dr [0, 0, 0, 0, 0, 0] [] false []) .p) .p)))) fun _ => by kernel_rfl, by kernel_rfl⟩
def c_83 : Con te := ak_ te [.d (.st 2), .d (.st 2)] [(.int .i64, [])] false fun a => eU_ a.1 a.2.1
theorem ok_83 : OKF 83 c_83 := ⟨af_ ai_ ag_ Tryz.func83 (by kernel_rfl) (pl := .p) fun _ => by kernel_rfl, by kernel_rfl⟩
theorem e_22 (a : PA te [.d (.st 4), .d .str]) : fi_ a.1 a.2.1 = evFun Tryz.prog te eqL (ti 50 (inlF Tryz.prog te eqL (ti 85 (inlF Tryz.prog te eqL (ti 84 (inlF Tryz.prog te eqL (tb 121 d9_ tnil) Tryz.f84 (.p : Pl)) (tb 58 c_58 tnil)) Tryz.f85 (.s .p (.s (.s .p (.s (.s (.ot 0 (.free 0 (.free 1 (.free 2 (.free 3 (.free 5 (.free 6 (.alt 4 (.alt 7 (.alt 8 (.alt 9 (.alt 10 (.free 11 (.free 12 (.alt 13 .nil .nil))) .nil) .nil) .nil) .nil) (.alt 7 (.alt 4 (.alt 8 (.alt 9 (.alt 10 (.free 11 (.free 12 (.alt 13 .nil .nil))) .nil) .nil) .nil) (.alt 8 (.alt 4 (.alt 9 (.alt 10 (.free 11 (.free 12 (.alt 13 .nil .nil))) .nil) .nil) (.alt 9 (.alt 4 (.alt 10 (.free 11 (.free 12 (.alt 13 .nil .nil))) .nil) .nil) .nil)) .nil)) .nil))))))))) .p) .p)) .p))) (ti 84 (inlF Tryz.prog te eqL (tb 121 d9_ tnil) Tryz.f84 (.p : Pl)) (tb 83 c_83 (tb 82 c_82 (tb 48 c_48 tnil))))) Tryz.f50 (.s .p (.s (.dr [0, 0, 0, 0, 0, 0, 0, 0, 0] [] false []) (.s .p (.s .p (.s .p (.s .p (.s .p (.j ⟨[], [(11, true, .cells 78 [.v .bool, .v (.int .i64), .v .str, .own 7, .own 119, .v .str, .own 44]), (7, true, .row 3 (.int .i64) []), (119, true, .row 63 (.st 3) []), (44, true, .row 38 (.st 2) [])], [0, 3, 6], [54, 78], [], 330⟩ false (.s .p (.s (.dr [0, 0, 0, 0, 0, 0, 0, 0, 0, 1, 4, 4, 4, 1] [] true [11]) .p)) (.j ⟨[], [(11, true, .cells 78 [.v .bool, .v (.int .i64), .v .str, .own 7, .own 330, .v .str, .own 331]), (7, true, .row 3 (.int .i64) []), (330, false, .row 63 (.st 3) []), (331, false, .row 38 (.st 2) [])], [0, 3], [54], [], 332⟩ false (.s .p (.s (.s (.dr [0, 0, 0, 0, 0, 0, 0, 0, 0] [] false []) .p) .p)) (.s (.dr [4, 0, 0, 0, 0, 0, 1, 2, 4, 4, 2] [0, 1, 2, 3, 4, 5] false []) .p))))))))))) (tb 58 c_58 (tb 121 d9_ (tb 83 c_83 (tb 82 c_82 (tb 48 c_48 (tb 27 c_27 (tb 35 c_35 (tb 39 c_39 tnil))))))))) Tryz.f22 [.d (.st 4), .d .str] [(.st 4, []), (.sl (.st 2), []), (.int .i64, [])] (.s .p (.s .p (.s .p (.s .p (.s .p (.s .p (.s (.s .p (.lp ⟨[(10, .d (.int .i64)), (56, .d (.int .i64))], [(11, true, .cells 78 [.v .bool, .v (.int .i64), .v .str, .own 7, .own 43, .v .str, .own 44]), (7, true, .row 3 (.int .i64) []), (43, false, .row 63 (.st 3) []), (44, false, .row 38 (.st 2) [])], [4, 7, 9, 54, 55], [2], [], 45⟩ ⟨[(10, .d (.int .i64))], [(11, true, .cells 78 [.v .bool, .v (.int .i64), .v .str, .own 7, .own 43, .v .str, .own 44]), (7, true, .row 3 (.int .i64) []), (43, false, .row 63 (.st 3) []), (44, false, .row 38 (.st 2) [])], [4, 7, 9], [2], [], 45⟩ false .p)) (.j ⟨[(10, .d (.int .i64))], [], [4, 7], [2, 7, 11, 43, 44], [], 45⟩ false .p (.s (.s .p (.s (.s .p (.s (.dr [0, 0, 0, 0, 0, 0, 1, 0, 1, 4, 4] [7] true [2, 44]) .p)) .p)) (.s (.dr [0, 0, 0, 0, 0, 0, 0, 0, 1, 4, 4] [] true [2]) .p)))))))))) a := by kernel_rfl
def c_22 : Con te := ak_ te [.d (.st 4), .d .str] [(.st 4, []), (.sl (.st 2), []), (.int .i64, [])] true fun a => fi_ a.1 a.2.1
theorem ok_22 : OKF 22 c_22 := ⟨af_ ai_ (ti_ok ⟨nb_ ai_ (ti_ok ⟨nb_ ai_ (ti_ok ⟨nb_ ai_ (ae_ eB_ ag_) Tryz.func84, by kernel_rfl⟩ (ae_ ok_58 ag_)) Tryz.func85, by kernel_rfl⟩ (ti_ok ⟨nb_ ai_ (ae_ eB_ ag_) Tryz.func84, by kernel_rfl⟩ (ae_ ok_83 (ae_ ok_82 (ae_ ok_48 ag_))))) Tryz.func50, by kernel_rfl⟩ (ae_ ok_58 (ae_ eB_ (ae_ ok_83 (ae_ ok_82 (ae_ ok_48 (ae_ ok_27 (ae_ ok_35 (ae_ ok_39 ag_))))))))) Tryz.func22 (by kernel_rfl) e_22, by kernel_rfl⟩
def c_33 : Con te := ak_ te [.d (.sl (.int .i64))] [(.bool, [])] false fun a => gB_ a.1
theorem ok_33 : OKF 33 c_33 := ⟨af_ ai_ ag_ Tryz.func33 (by kernel_rfl) (pl := .s .p (.s .p (.s (.s .p (.lp ⟨[(10, .d (.int .i64))], [], [0, 8, 9], [], [], 7⟩ ⟨[], [], [], [], [], 7⟩ true .p)) .p))) fun _ => by kernel_rfl, by kernel_rfl⟩
def c_34 : Con te := ak_ te [.d (.sl (.st 3)), .d (.int .i64)] [(.bool, [])] false fun a => gC_ a.1 a.2.1
theorem ok_34 : OKF 34 c_34 := ⟨af_ ai_ (ae_ ok_64 (ae_ ok_48 (ae_ ok_63 (ae_ ok_40 ag_)))) Tryz.func34 (by kernel_rfl) (pl := .s .p (.s .p (.s .p (.s (.s .p (.s .p (.s .p (.s .p (.s (.s .p (.s (.dr [0, 0, 0, 0, 0, 0, 0, 0, 0, 0, 0, 0, 0, 0, 0, 0, 0, 0, 0, 0, 0, 0, 0, 0, 0, 0, 0, 0, 0, 0, 0, 0, 0, 0] [] false []) .p)) .p))))) (.s (.dr [0, 0, 0, 0, 0, 0, 0, 0, 0, 0, 0, 0, 0, 0, 0, 0] [] false []) .p))))) fun _ => by kernel_rfl, by kernel_rfl⟩
def c_12 : Con te := ak_ te [.d (.st 4)] [(.bool, [])] false fun a => eH_ a.1
theorem ok_12 : OKF 12 c_12 := ⟨af_ ai_ (ae_ ok_35 (ae_ ok_34 (ae_ ok_33 ag_))) Tryz.func12 (by kernel_rfl) (pl := .s .p (.s .p (.s (.s .p (.lp ⟨[(41, .d (.int .i64))], [], [1, 40], [0], [], 24014⟩ ⟨[], [], [1], [0], [], 24014⟩ true .p)) .p))) fun _ => by kernel_rfl, by kernel_rfl⟩
def c_11 : Con te := ak_ te [] [(.bool, [])] false fun _ => fj_
theorem ok_11 : OKF 11 c_11 := ⟨af_ ai_ (ae_ ok_12 (ae_ ok_22 (ae_ ok_20 (ae_ ok_18 (ae_ ok_15 ag_))))) Tryz.func11 (by kernel_rfl) (pl := .p) fun _ => by kernel_rfl, by kernel_rfl⟩
def c_98 : Con te := ak_ te [.d (.int .i64)] [(.str, [])] false fun a => lD_ a.1
theorem ok_98 : OKF 98 c_98 := ⟨af_ ai_ ag_ Tryz.func98 (by kernel_rfl) (pl := .p) fun _ => by kernel_rfl, by kernel_rfl⟩
def c_57 : Con te := ak_ te [.d (.int .i64)] [(.str, [])] false fun a => d6_ a.1
theorem ok_57 : OKF 57 c_57 := ⟨af_ ai_ (ae_ ok_98 ag_) Tryz.func57 (by kernel_rfl) (pl := .p) fun _ => by kernel_rfl, by kernel_rfl⟩
def c_26 : Con te := ak_ te [.d (.int .i64)] [(.bool, [])] false fun a => dn_ a.1
theorem ok_26 : OKF 26 c_26 := ⟨af_ ai_ (ae_ ok_57 ag_) Tryz.func26 (by kernel_rfl) (pl := .p) fun _ => by kernel_rfl, by kernel_rfl⟩
def c_88 : Con te := ak_ te [.d (.st 2)] [(.int .i64, [])] false fun a => iG_ a.1
theorem ok_88 : OKF 88 c_88 := ⟨af_ ai_ ag_ Tryz.func88 (by kernel_rfl) (pl := .p) fun _ => by kernel_rfl, by kernel_rfl⟩
def c_91 : Con te := ak_ te [.d (.int .i64)] [(.str, [])] false fun a => cL_ a.1
theorem ok_91 : OKF 91 c_91 := ⟨af_ ai_ ag_ Tryz.func91 (by kernel_rfl) (pl := .s .p (.s (.s .p (.s .p (.s .p (.s .p (.s .p (.s .p (.s .p (.j ⟨[(10, .d .bool)], [], [3], [], [], 8⟩ false .p (.s .p (.s .p (.s .p (.s .p (.s .p (.s .p (.s .p (.s .p (.s .p (.s .p (.s .p (.s .p (.s .p (.j ⟨[(25, .d .bool)], [], [3], [], [], 20⟩ false .p (.s .p (.s .p (.s .p (.s .p (.s .p (.s .p (.s .p (.s .p (.s .p (.s .p (.s .p (.j ⟨[(38, .d .bool)], [], [3], [], [], 30⟩ false .p .p)))))))))))))))))))))))))))))))))) .p)) fun _ => by kernel_rfl, by kernel_rfl⟩
def c_89 : Con te := ak_ te [.d (.int .i64), .d (.int .u8)] [(.bool, [])] false fun a => hq_ a.1 a.2.1
theorem ok_89 : OKF 89 c_89 := ⟨af_ ai_ (ae_ ok_91 ag_) Tryz.func89 (by kernel_rfl) (pl := .s .p (.s .p (.s (.s .p (.lp ⟨[(6, .d (.int .i64))], [], [1, 5], [], [], 5⟩ ⟨[], [], [], [], [], 5⟩ true .p)) .p))) fun _ => by kernel_rfl, by kernel_rfl⟩
def c_123 : Con te := ak_ te [.d (.st 2), .d (.int .u8)] [(.bool, [])] false fun a => h2_ a.1 a.2.1
theorem ok_123 : OKF 123 c_123 := ⟨af_ ai_ ag_ Tryz.func123 (by kernel_rfl) (pl := .p) fun _ => by kernel_rfl, by kernel_rfl⟩
def c_90 : Con te := ak_ te [.d (.st 2), .d (.int .u8)] [(.bool, [])] false fun a => jg_ a.1 a.2.1
theorem ok_90 : OKF 90 c_90 := ⟨af_ ai_ (ae_ ok_123 ag_) Tryz.func90 (by kernel_rfl) (pl := .p) fun _ => by kernel_rfl, by kernel_rfl⟩
def c_124 : Con te := ak_ te [.d (.int .i64), .d (.int .i64)] [(.int .i64, [])] false fun a => bb_ a.1 a.2.1
theorem ok_124 : OKF 124 c_124 := ⟨af_ ai_ ag_ Tryz.func124 (by kernel_rfl) (pl := .p) fun _ => by kernel_rfl, by kernel_rfl⟩
def c_125 : Con te := ak_ te [.d .str, .d (.int .i64)] [(.int .i64, [])] false fun a => de_ a.1 a.2.1
theorem ok_125 : OKF 125 c_125 := ⟨af_ ai_ ag_ Tryz.func125 (by kernel_rfl) (pl := .p) fun _ => by kernel_rfl, by kernel_rfl⟩
def c_163 : Con te := ak_ te [.d .str] [(.bool, [])] false fun a => fk_ a.1
theorem ok_163 : OKF 163 c_163 := ⟨af_ ai_ ag_ Tryz.func163 (by kernel_rfl) (pl := .s .p (.s (.s .p (.lp ⟨[(3, .d (.int .i64))], [], [0], [], [], 2⟩ ⟨[], [], [0], [], [], 2⟩ true .p)) .p)) fun _ => by kernel_rfl, by kernel_rfl⟩
def c_126 : Con te := ak_ te [.d (.sl .str)] [(.int .i64, [])] false fun a => iu_ a.1
theorem ok_126 : OKF 126 c_126 := ⟨af_ ai_ (ae_ ok_163 ag_) Tryz.func126 (by kernel_rfl) (pl := .s .p (.s .p (.s (.s .p (.lp ⟨[(9, .d (.int .i64))], [], [0, 8], [], [], 7⟩ ⟨[], [], [], [], [], 7⟩ true .p)) .p))) fun _ => by kernel_rfl, by kernel_rfl⟩
def c_128 : Con te := ak_ te [.d (.st 0)] [(.int .i64, [])] false fun a => iH_ a.1
theorem ok_128 : OKF 128 c_128 := ⟨af_ ai_ ag_ Tryz.func128 (by kernel_rfl) (pl := .p) fun _ => by kernel_rfl, by kernel_rfl⟩
def c_127 : Con te := ak_ te [.d (.sl (.st 0))] [(.int .i64, [])] false fun a => jh_ a.1
theorem ok_127 : OKF 127 c_127 := ⟨af_ ai_ (ae_ ok_128 ag_) Tryz.func127 (by kernel_rfl) (pl := .s .p (.s .p (.s (.s .p (.lp ⟨[(10, .d (.int .i64))], [], [0, 9], [], [], 7⟩ ⟨[], [], [], [], [], 7⟩ true .p)) .p))) fun _ => by kernel_rfl, by kernel_rfl⟩
def c_184 : Con te := ak_ te [.d (.int .i64), .d (.int .i64)] [(.bool, [])] false fun a => ko_ a.1 a.2.1
theorem ok_184 : OKF 184 c_184 := ⟨af_ ai_ ag_ Tryz.func184 (by kernel_rfl) (pl := .p) fun _ => by kernel_rfl, by kernel_rfl⟩
def c_185 : Con te := ak_ te [.d (.int .i64), .d (.int .i64)] [(.bool, [])] false fun a => eW_ a.1 a.2.1
theorem ok_185 : OKF 185 c_185 := ⟨af_ ai_ ag_ Tryz.func185 (by kernel_rfl) (pl := .p) fun _ => by kernel_rfl, by kernel_rfl⟩
def c_179 : Con te := ak_ te [.d (.st 1)] [(.bool, [])] false fun a => gD_ a.1
theorem ok_179 : OKF 179 c_179 := ⟨af_ ai_ (ae_ ok_185 (ae_ ok_184 ag_)) Tryz.func179 (by kernel_rfl) (pl := .p) fun _ => by kernel_rfl, by kernel_rfl⟩
def c_164 : Con te := ak_ te [.d (.st 1)] [(.int .i64, [])] false fun a => fl_ a.1
theorem ok_164 : OKF 164 c_164 := ⟨af_ ai_ (ae_ ok_163 (ae_ ok_179 ag_)) Tryz.func164 (by kernel_rfl) (pl := .p) fun _ => by kernel_rfl, by kernel_rfl⟩
def c_129 : Con te := ak_ te [.d (.st 2), .d (.int .u8)] [(.int .i64, [])] false fun a => hr_ a.1 a.2.1
theorem ok_129 : OKF 129 c_129 := ⟨af_ ai_ (ae_ ok_164 (ae_ ok_125 (ae_ ok_163 (ae_ ok_124 ag_)))) Tryz.func129 (by kernel_rfl) (pl := .p) fun _ => by kernel_rfl, by kernel_rfl⟩
def c_92 : Con te := ak_ te [.d (.st 2), .d (.int .u8)] [(.int .i64, [])] false fun a => iv_ a.1 a.2.1
theorem ok_92 : OKF 92 c_92 := ⟨af_ ai_ (ae_ ok_129 (ae_ ok_128 (ae_ ok_127 (ae_ ok_126 (ae_ ok_125 (ae_ ok_124 ag_)))))) Tryz.func92 (by kernel_rfl) (pl := .p) fun _ => by kernel_rfl, by kernel_rfl⟩
def c_52 : Con te := ak_ te [.d (.st 2)] [(.int .i64, [])] false fun a => cb_ a.1
theorem ok_52 : OKF 52 c_52 := ⟨af_ ai_ (ae_ ok_92 (ae_ ok_91 (ae_ ok_90 (ae_ ok_89 (ae_ ok_88 (ae_ ok_57 ag_)))))) Tryz.func52 (by kernel_rfl) (pl := .s .p (.s .p (.s .p (.s (.s .p (.lp ⟨[(4, .d (.int .i64))], [], [1], [0], [], 13⟩ ⟨[], [], [1], [0], [], 13⟩ true (.s .p (.s (.s (.dr [0, 0, 0, 0, 0, 0, 0, 0, 0, 0, 0, 0, 0] [] false []) .p) .p)))) (.s .p (.s (.s .p (.lp ⟨[(6, .d (.int .i64))], [], [1, 5], [0], [], 18⟩ ⟨[], [], [], [], [], 18⟩ true (.s .p (.s (.s (.dr [0, 0, 0, 0, 0, 0] [] false []) .p) .p)))) .p)))))) fun _ => by kernel_rfl, by kernel_rfl⟩
def c_45 : Con te := ak_ te [.d (.sl (.st 3)), .d (.int .i64)] [(.int .i64, [])] false fun a => cG_ a.1 a.2.1
theorem ok_45 : OKF 45 c_45 := ⟨af_ ai_ ag_ Tryz.func45 (by kernel_rfl) (pl := .s .p (.s (.s .p (.lp ⟨[(5, .d (.int .i64))], [], [0, 1], [], [], 2⟩ ⟨[], [], [], [], [], 2⟩ true .p)) .p)) fun _ => by kernel_rfl, by kernel_rfl⟩
def c_67 : Con te := ak_ te [.d (.sl (.st 3)), .d (.int .i64)] [(.int .i64, [])] false fun a => fm_ a.1 a.2.1
theorem ok_67 : OKF 67 c_67 := ⟨af_ ai_ ag_ Tryz.func67 (by kernel_rfl) (pl := .s .p (.s (.s .p (.lp ⟨[(5, .d (.int .i64))], [], [0, 1], [], [], 2⟩ ⟨[], [], [], [], [], 2⟩ true .p)) .p)) fun _ => by kernel_rfl, by kernel_rfl⟩
def c_36 : Con te := ak_ te [.d (.sl (.st 3))] [(.bool, [])] false fun a => eX_ a.1
theorem ok_36 : OKF 36 c_36 := ⟨af_ ai_ (ae_ ok_67 (ae_ ok_45 (ae_ ok_52 (ae_ ok_26 ag_)))) Tryz.func36 (by kernel_rfl) (pl := .s .p (.s (.s .p (.lp ⟨[(3, .d (.int .i64))], [], [0], [], [], 2⟩ ⟨[], [], [0], [], [], 2⟩ true (.s .p (.s (.s .p (.s .p (.s .p (.s (.s (.dr [0, 0, 0, 0, 0, 0, 0, 0, 0, 0, 0, 0, 0, 0, 0, 0, 0, 0, 0, 0, 0, 0, 0, 0, 0] [] false []) .p) (.s .p (.j ⟨[(6, .d (.int .i64))], [], [0, 3], [], [], 50037⟩ false .p .p)))))) .p)))) .p)) fun _ => by kernel_rfl, by kernel_rfl⟩
def c_97 : Con te := ak_ te [.d (.int .i64)] [(.bool, [])] false fun a => gl_ a.1
theorem ok_97 : OKF 97 c_97 := ⟨af_ ai_ ag_ Tryz.func97 (by kernel_rfl) (pl := .p) fun _ => by kernel_rfl, by kernel_rfl⟩
def c_68 : Con te := ak_ te [.d .str, .d (.int .i64), .d (.int .i64)] [(.int .i64, []), (.int .i64, []), (.int .i64, [])] false fun a => eI_ a.1 a.2.1 a.2.2.1
theorem ok_68 : OKF 68 c_68 := ⟨af_ ai_ (ae_ ok_97 ag_) Tryz.func68 (by kernel_rfl) (pl := .s .p (.s .p (.s .p (.s .p (.s (.s .p (.lp ⟨[(9, .d (.int .i64)), (10, .d (.int .i64))], [], [0, 1, 2], [], [], 8018⟩ ⟨[(9, .d (.int .i64))], [], [1, 2], [], [], 8018⟩ true .p)) .p))))) fun _ => by kernel_rfl, by kernel_rfl⟩
def c_110 : Con te := ak_ te [.d (.st 11), .d (.int .i64)] [(.st 11, []), (.int .i64, [])] false fun a => aw_ a.1 a.2.1
theorem ok_110 : OKF 110 c_110 := ⟨af_ ai_ (ae_ ok_68 ag_) Tryz.func110 (by kernel_rfl) (pl := .p) fun _ => by kernel_rfl, by kernel_rfl⟩
def c_53 : Con te := ak_ te [.d (.int .i64)] [(.sl (.int .i64), []), (.bool, [])] true fun a => cM_ a.1
theorem ok_53 : OKF 53 c_53 := ⟨af_ ai_ ag_ Tryz.func53 (by kernel_rfl) (pl := .s .p (.s (.s .p (.s .p (.s .p (.s .p (.s .p (.s .p (.s .p (.j ⟨[(14, .d .bool)], [], [4], [], [], 9⟩ false .p (.s .p (.s .p (.s .p (.s .p (.s .p (.s .p (.s .p (.s .p (.s .p (.s .p (.s .p (.s .p (.s .p (.j ⟨[(36, .d .bool)], [], [4], [], [], 21⟩ false .p (.s .p (.s .p (.s .p (.s .p (.s .p (.s .p (.s .p (.s .p (.s .p (.s .p (.s .p (.j ⟨[(55, .d .bool)], [], [4], [], [], 31⟩ false .p (.s .p (.s .p (.s .p (.s .p (.s .p (.s .p (.s .p (.s .p (.s .p (.s .p (.s .p (.j ⟨[(75, .d .bool)], [], [], [], [], 41⟩ false .p .p)))))))))))))))))))))))))))))))))))))))))))))) .p)) fun _ => by kernel_rfl, by kernel_rfl⟩
def c_174 : Con te := ak_ te [.d .str, .d (.int .i64)] [(.str, []), (.int .i64, []), (.int .i64, [])] false fun a => gE_ a.1 a.2.1
theorem ok_174 : OKF 174 c_174 := ⟨af_ ai_ (ae_ ok_68 ag_) Tryz.func174 (by kernel_rfl) (pl := .p) fun _ => by kernel_rfl, by kernel_rfl⟩
def c_156 : Con te := ak_ te [.d (.st 11)] [(.st 11, []), (.str, [])] false fun a => bC_ a.1
theorem ok_156 : OKF 156 c_156 := ⟨af_ ai_ (ae_ ok_174 ag_) Tryz.func156 (by kernel_rfl) (pl := .p) fun _ => by kernel_rfl, by kernel_rfl⟩
def c_157 : Con te := ak_ te [.d (.st 11)] [(.st 11, []), (.st 0, [])] false fun a => ey_ a.1
theorem ok_157 : OKF 157 c_157 := ⟨af_ ai_ (ae_ ok_110 ag_) Tryz.func157 (by kernel_rfl) (pl := .p) fun _ => by kernel_rfl, by kernel_rfl⟩
def c_131 : Con te := ak_ te [] [(.sl .str, [some 9])] false fun _ => gm_
theorem ok_131 : OKF 131 c_131 := ⟨af_ ai_ ag_ Tryz.func131 (by kernel_rfl) (pl := .p) fun _ => by kernel_rfl, by kernel_rfl⟩
def c_175 : Con te := ak_ te [.d .str] [(.int .i64, []), (.bool, [])] false fun a => eY_ a.1
theorem ok_175 : OKF 175 c_175 := ⟨af_ ai_ (ae_ ok_131 ag_) Tryz.func175 (by kernel_rfl) (pl := .s .p (.s .p (.s (.s .p (.lp ⟨[(5, .d (.int .i64))], [(2, true, .row 9 .str [])], [0, 4], [], [], 6⟩ ⟨[], [], [], [], [], 6⟩ true .p)) .p))) fun _ => by kernel_rfl, by kernel_rfl⟩
def c_176 : Con te := ak_ te [.d (.st 11), .d (.int .i64)] [(.st 11, []), (.str, [])] false fun a => df_ a.1 a.2.1
theorem ok_176 : OKF 176 c_176 := ⟨af_ ai_ ag_ Tryz.func176 (by kernel_rfl) (pl := .s .p (.s .p (.s (.dr [0, 0, 0, 0, 0, 0, 0, 0, 0, 1, 4] [] true [2]) .p))) fun _ => by kernel_rfl, by kernel_rfl⟩
def c_181 : Con te := ak_ te [.d .str] [(.st 12, []), (.bool, [])] false fun a => gn_ a.1
theorem ok_181 : OKF 181 c_181 := ⟨af_ ai_ ag_ Tryz.func181 (by kernel_rfl) (pl := .s .p (.s .p (.s .p (.s (.s .p (.lp ⟨[(5, .d (.int .i64)), (6, .d (.int .i64))], [(3, true, .box 195 (.st 12))], [0, 2, 4], [0], [], 7⟩ ⟨[(5, .d (.int .i64))], [(3, true, .box 195 (.st 12))], [0, 2, 4], [0], [], 7⟩ true (.s .p (.s (.s .p (.s (.dr [0, 0, 0, 0, 0, 0, 0, 0, 0, 0, 0, 0] [] false []) .p)) .p)))) .p)))) fun _ => by kernel_rfl, by kernel_rfl⟩
def c_182 : Con te := ak_ te [.d .str, .d (.int .i64), .d (.int .i64)] [(.int .i64, [])] false fun a => bQ_ a.1 a.2.1 a.2.2.1
theorem ok_182 : OKF 182 c_182 := ⟨af_ ai_ ag_ Tryz.func182 (by kernel_rfl) (pl := .s .p (.s .p (.s (.s .p (.lp ⟨[(7, .d (.int .i64)), (8, .d .bool), (9, .d (.int .i64))], [], [0, 1], [], [], 6⟩ ⟨[(7, .d (.int .i64)), (8, .d .bool)], [], [], [], [], 6⟩ false (.s .p (.j ⟨[(7, .d (.int .i64)), (8, .d .bool)], [], [0, 1, 9], [], [], 8⟩ false .p .p)))) .p))) fun _ => by kernel_rfl, by kernel_rfl⟩
def c_177 : Con te := ak_ te [.d .str, .d (.int .i64)] [(.st 1, []), (.int .i64, []), (.int .i64, [])] false fun a => iI_ a.1 a.2.1
theorem ok_177 : OKF 177 c_177 := ⟨af_ ai_ (ae_ ok_164 (ae_ ok_182 (ae_ ok_181 ag_))) Tryz.func177 (by kernel_rfl) (pl := .s .p (.s .p (.s .p (.s (.dr [0, 0, 0, 0, 0, 0, 0, 0, 0, 0, 0, 0] [] false []) (.s .p (.s .p (.s .p (.s .p (.s .p (.s .p (.s (.dr [0, 0, 0, 0, 0, 0, 0, 0, 0, 0, 0, 0, 0, 0, 0, 0, 0, 0, 0, 0, 0, 0, 1, 2] [] false []) .p))))))))))) fun _ => by kernel_rfl, by kernel_rfl⟩
def c_158 : Con te := ak_ te [.d (.st 11), .g (.st 2) [none, none, none, none, none, none, none, none, none, none, some 9, some 33], .d (.int .i64)] [(.st 11, []), (.st 2, [none, none, none, none, none, none, none, none, none, none, some 9, some 33])] false fun a => bA_ a.1 a.2.1 a.2.2.1
theorem ok_158 : OKF 158 c_158 := ⟨af_ ai_ (ae_ ok_177 (ae_ ok_176 (ae_ ok_157 (ae_ ok_110 (ae_ ok_175 (ae_ ok_156 ag_)))))) Tryz.func158 (by kernel_rfl) (pl := .s .p (.s .p (.j ⟨[], [(2, true, .box 132 (.st 11)), (4, true, .cells 38 [.v (.int .i64), .v (.int .i64), .v (.int .i64), .v (.int .i64), .v (.int .i64), .v (.int .i64), .v (.int .i64), .v .str, .v .str, .v .str, .own 11, .own 12, .v (.int .i64), .v (.int .i64), .v (.int .i64), .v (.int .i64), .v (.int .i64), .v (.int .i64), .v .str, .v (.int .i64), .v (.int .i64), .v .str, .v (.int .i64), .v (.int .i64), .v (.int .i64), .v (.int .i64), .v (.int .i64), .v (.int .i64), .v (.int .i64), .v (.int .i64), .v (.int .i64), .v .str, .v .str, .v .str, .v .str, .v (.int .i64), .v (.int .i64), .v (.int .i64), .v .str]), (11, false, .row 9 .str []), (12, false, .row 33 (.st 0) [])], [3, 4, 6, 7], [6, 8], [], 13⟩ true (.s .p (.s .p (.s (.s .p (.s .p (.s .p (.s (.dr [0, 0, 0, 0, 0, 0, 0, 0, 0, 0, 1, 1] [] true [6, 8]) .p)))) (.s .p (.s (.s .p (.s .p (.lp ⟨[(13, .d (.int .i64))], [(2, true, .box 132 (.st 11)), (4, true, .cells 38 [.v (.int .i64), .v (.int .i64), .v (.int .i64), .v (.int .i64), .v (.int .i64), .v (.int .i64), .v (.int .i64), .v .str, .v .str, .v .str, .own 25, .own 1, .v (.int .i64), .v (.int .i64), .v (.int .i64), .v (.int .i64), .v (.int .i64), .v (.int .i64), .v .str, .v (.int .i64), .v (.int .i64), .v .str, .v (.int .i64), .v (.int .i64), .v (.int .i64), .v (.int .i64), .v (.int .i64), .v (.int .i64), .v (.int .i64), .v (.int .i64), .v (.int .i64), .v .str, .v .str, .v .str, .v .str, .v (.int .i64), .v (.int .i64), .v (.int .i64), .v .str]), (25, false, .row 9 .str []), (1, true, .row 33 (.st 0) [])], [3, 4, 6, 7, 8], [6, 8], [], 26⟩ ⟨[], [(2, true, .box 132 (.st 11)), (4, true, .cells 38 [.v (.int .i64), .v (.int .i64), .v (.int .i64), .v (.int .i64), .v (.int .i64), .v (.int .i64), .v (.int .i64), .v .str, .v .str, .v .str, .own 25, .own 1, .v (.int .i64), .v (.int .i64), .v (.int .i64), .v (.int .i64), .v (.int .i64), .v (.int .i64), .v .str, .v (.int .i64), .v (.int .i64), .v .str, .v (.int .i64), .v (.int .i64), .v (.int .i64), .v (.int .i64), .v (.int .i64), .v (.int .i64), .v (.int .i64), .v (.int .i64), .v (.int .i64), .v .str, .v .str, .v .str, .v .str, .v (.int .i64), .v (.int .i64), .v (.int .i64), .v .str]), (25, false, .row 9 .str []), (1, true, .row 33 (.st 0) [])], [3, 4, 6, 7], [6, 8], [], 26⟩ false .p))) (.s .p (.s (.s .p (.s .p (.lp ⟨[(16, .d (.int .i64))], [(2, true, .box 132 (.st 11)), (4, true, .cells 38 [.v (.int .i64), .v (.int .i64), .v (.int .i64), .v (.int .i64), .v (.int .i64), .v (.int .i64), .v (.int .i64), .v .str, .v .str, .v .str, .own 0, .own 27, .v (.int .i64), .v (.int .i64), .v (.int .i64), .v (.int .i64), .v (.int .i64), .v (.int .i64), .v .str, .v (.int .i64), .v (.int .i64), .v .str, .v (.int .i64), .v (.int .i64), .v (.int .i64), .v (.int .i64), .v (.int .i64), .v (.int .i64), .v (.int .i64), .v (.int .i64), .v (.int .i64), .v .str, .v .str, .v .str, .v .str, .v (.int .i64), .v (.int .i64), .v (.int .i64), .v .str]), (0, true, .row 9 .str []), (27, false, .row 33 (.st 0) [])], [3, 4, 6, 7, 8], [6, 8], [], 28⟩ ⟨[], [(2, true, .box 132 (.st 11)), (4, true, .cells 38 [.v (.int .i64), .v (.int .i64), .v (.int .i64), .v (.int .i64), .v (.int .i64), .v (.int .i64), .v (.int .i64), .v .str, .v .str, .v .str, .own 0, .own 27, .v (.int .i64), .v (.int .i64), .v (.int .i64), .v (.int .i64), .v (.int .i64), .v (.int .i64), .v .str, .v (.int .i64), .v (.int .i64), .v .str, .v (.int .i64), .v (.int .i64), .v (.int .i64), .v (.int .i64), .v (.int .i64), .v (.int .i64), .v (.int .i64), .v (.int .i64), .v (.int .i64), .v .str, .v .str, .v .str, .v .str, .v (.int .i64), .v (.int .i64), .v (.int .i64), .v .str]), (0, true, .row 9 .str []), (27, false, .row 33 (.st 0) [])], [3, 4, 6, 7], [6, 8], [], 28⟩ false .p))) (.s .p (.s .p (.s .p (.s (.s .p (.s .p (.s .p (.s .p (.s (.dr [0, 0, 0, 0, 0, 0, 0, 0, 0, 0, 0, 0, 0, 0, 0, 1, 1] [] true [6, 8]) .p))))) .p))))))))))) (.s (.dr [0, 0, 1, 1] [] true [6, 8]) .p)))) fun _ => by kernel_rfl, by kernel_rfl⟩
end
end Go.Proofs.YtolgkhjkdadhiaaGreat
namespace Go.Proofs.YtolgkhjkdadhiaaGreat
open Go.Rt Go.RowKit
noncomputable section
def c_111 : Con te := ak_ te [.d (.st 11), .g (.st 2) [none, none, none, none, none, none, none, none, none, none, some 9, some 33], .d (.int .i64)] [(.st 11, []), (.st 2, [none, none, none, none, none, none, none, none, none, none, some 9, some 33])] false fun a => aq_ a.1 a.2.1 a.2.2.1
theorem ok_111 : OKF 111 c_111 := ⟨af_ ai_ (ae_ ok_158 (ae_ ok_157 (ae_ ok_156 (ae_ ok_110 ag_)))) Tryz.func111 (by kernel_rfl) (pl := .s .p (.j ⟨[], [(2, true, .box 132 (.st 11)), (4, true, .cells 38 [.v (.int .i64), .v (.int .i64), .v (.int .i64), .v (.int .i64), .v (.int .i64), .v (.int .i64), .v (.int .i64), .v .str, .v .str, .v .str, .own 0, .own 1, .v (.int .i64), .v (.int .i64), .v (.int .i64), .v (.int .i64), .v (.int .i64), .v (.int .i64), .v .str, .v (.int .i64), .v (.int .i64), .v .str, .v (.int .i64), .v (.int .i64), .v (.int .i64), .v (.int .i64), .v (.int .i64), .v (.int .i64), .v (.int .i64), .v (.int .i64), .v (.int .i64), .v .str, .v .str, .v .str, .v .str, .v (.int .i64), .v (.int .i64), .v (.int .i64), .v .str]), (0, true, .row 9 .str []), (1, true, .row 33 (.st 0) [])], [3, 4, 6, 7], [6, 8], [], 10⟩ true .p (.s (.dr [0, 0, 1, 1] [] true [6, 8]) .p))) fun _ => by kernel_rfl, by kernel_rfl⟩
def c_69 : Con te := ak_ te [.d .str, .d (.int .i64)] [(.st 2, [none, none, none, none, none, none, none, none, none, none, some 9, some 33]), (.int .i64, []), (.int .i64, [])] false fun a => d8_ a.1 a.2.1
theorem ok_69 : OKF 69 c_69 := ⟨af_ ai_ (ae_ ok_52 (ae_ ok_111 (ae_ ok_53 (ae_ ok_110 (ae_ ok_68 ag_))))) Tryz.func69 (by kernel_rfl) (pl := .s .p (.s .p (.s .p (.s .p (.s .p (.s .p (.s .p (.s .p (.s .p (.s .p (.s .p (.s .p (.s .p (.s (.s .p (.lp ⟨[(17, .d (.int .i64))], [(5029, true, .cells 38 [.v (.int .i64), .v (.int .i64), .v (.int .i64), .v (.int .i64), .v (.int .i64), .v (.int .i64), .v (.int .i64), .v .str, .v .str, .v .str, .own 5074, .own 5075, .v (.int .i64), .v (.int .i64), .v (.int .i64), .v (.int .i64), .v (.int .i64), .v (.int .i64), .v .str, .v (.int .i64), .v (.int .i64), .v .str, .v (.int .i64), .v (.int .i64), .v (.int .i64), .v (.int .i64), .v (.int .i64), .v (.int .i64), .v (.int .i64), .v (.int .i64), .v (.int .i64), .v .str, .v .str, .v .str, .v .str, .v (.int .i64), .v (.int .i64), .v (.int .i64), .v .str]), (5074, false, .row 9 .str []), (5075, false, .row 33 (.st 0) []), (5053, true, .box 132 (.st 11))], [1, 4, 7, 10, 13, 15, 16], [0], [], 5076⟩ ⟨[], [(5029, true, .cells 38 [.v (.int .i64), .v (.int .i64), .v (.int .i64), .v (.int .i64), .v (.int .i64), .v (.int .i64), .v (.int .i64), .v .str, .v .str, .v .str, .own 5074, .own 5075, .v (.int .i64), .v (.int .i64), .v (.int .i64), .v (.int .i64), .v (.int .i64), .v (.int .i64), .v .str, .v (.int .i64), .v (.int .i64), .v .str, .v (.int .i64), .v (.int .i64), .v (.int .i64), .v (.int .i64), .v (.int .i64), .v (.int .i64), .v (.int .i64), .v (.int .i64), .v (.int .i64), .v .str, .v .str, .v .str, .v .str, .v (.int .i64), .v (.int .i64), .v (.int .i64), .v .str]), (5074, false, .row 9 .str []), (5075, false, .row 33 (.st 0) []), (5053, true, .box 132 (.st 11))], [1, 4, 7, 10, 13, 16], [0], [], 5076⟩ false (.s .p (.s (.dr [0, 0, 0, 0, 0, 0, 2, 4, 4, 4, 2, 2] [] false []) .p)))) .p)))))))))))))) fun _ => by kernel_rfl, by kernel_rfl⟩
def c_37 : Con te := ak_ te [.d .str, .d (.int .i64)] [(.sl (.st 2), [some 38]), (.str, []), (.int .i64, [])] true fun a => fn_ a.1 a.2.1
theorem ok_37 : OKF 37 c_37 := ⟨af_ ai_ (ae_ ok_69 (ae_ ok_68 ag_)) Tryz.func37 (by kernel_rfl) (pl := .s .p (.s .p (.j ⟨[(7, .d (.int .i64))], [], [0], [], [], 5⟩ false .p (.s .p (.s .p (.s (.lp ⟨[(8, .one (.own 8)), (9, .d .str)], [(8, false, .row 38 (.st 2) [])], [7], [], [], 9⟩ ⟨[(8, .one (.own 8)), (9, .d .str)], [(8, false, .row 38 (.st 2) [])], [], [], [], 9⟩ true .p) .p)))))) fun _ => by kernel_rfl, by kernel_rfl⟩
def c_13 : Con te := ak_ te [.d (.st 4)] [(.bool, [])] false fun a => go_ a.1
theorem ok_13 : OKF 13 c_13 := ⟨af_ ai_ (ae_ ok_37 (ae_ ok_36 ag_)) Tryz.func13 (by kernel_rfl) (pl := .s .p (.s .p (.s (.s .p (.lp ⟨[(3, .d (.int .i64))], [], [1], [0], [], 24011⟩ ⟨[], [], [1], [0], [], 24011⟩ true (.s .p (.s (.s (.dr [0, 0, 0, 0, 0, 0, 0, 0, 0, 0, 0, 0, 0, 0, 0, 0, 0, 0, 0, 0, 0, 0, 0, 0, 0, 0, 0, 0, 0, 0, 0, 0] [] false []) .p) .p)))) .p))) fun _ => by kernel_rfl, by kernel_rfl⟩
def c_38 : Con te := ak_ te [.d (.st 2), .d (.st 2)] [(.bool, [])] false fun a => hs_ a.1 a.2.1
theorem ok_38 : OKF 38 c_38 := ⟨af_ ai_ ag_ Tryz.func38 (by kernel_rfl) (pl := .s .p (.s .p (.s (.s .p (.lp ⟨[(28, .d (.int .i64))], [], [2, 3, 27], [0, 2], [], 8017⟩ ⟨[], [], [2, 3], [0, 2], [], 8017⟩ true (.s .p (.s .p (.s (.s .p (.s (.dr [0, 0, 0, 0, 0, 0, 0, 0, 0, 0, 0] [] false []) .p)) .p))))) (.s (.s .p (.lp ⟨[(46, .d (.int .i64))], [], [2, 3, 45], [0, 2], [], 8021⟩ ⟨[], [], [2, 3], [0, 2], [], 8021⟩ true (.s .p (.s .p (.s (.s .p (.s (.dr [0, 0, 0, 0, 0, 0, 0, 0, 0, 0, 0] [] false []) .p)) .p))))) .p)))) fun _ => by kernel_rfl, by kernel_rfl⟩
def c_14 : Con te := ak_ te [.d (.st 4), .d (.st 4)] [(.bool, [])] false fun a => f6_ a.1 a.2.1
theorem ok_14 : OKF 14 c_14 := ⟨af_ ai_ (ae_ ok_38 ag_) Tryz.func14 (by kernel_rfl) (pl := .s .p (.s .p (.s (.s .p (.lp ⟨[(5, .d (.int .i64))], [], [2, 3], [0, 2], [], 34016⟩ ⟨[], [], [2, 3], [0, 2], [], 34016⟩ true (.s .p (.s (.s (.dr [0, 0, 0, 0, 0, 0, 0, 0, 0, 0, 0] [] false []) .p) .p)))) (.s (.s .p (.lp ⟨[(6, .d (.int .i64))], [], [2, 3], [0, 2], [], 34017⟩ ⟨[], [], [], [], [], 34017⟩ true (.s .p (.s (.s (.dr [0, 0, 0, 0, 0, 0, 0, 0, 0, 0, 0, 0, 0, 0, 0, 0, 0, 0, 0, 0, 0, 0, 0, 0, 0, 0, 0, 0, 0] [] false []) .p) .p)))) .p)))) fun _ => by kernel_rfl, by kernel_rfl⟩
def c_59 : Con te := ak_ te [.d (.st 2), .d (.int .i64)] [(.st 2, [])] true fun a => ji_ a.1 a.2.1
theorem ok_59 : OKF 59 c_59 := ⟨af_ ai_ ag_ Tryz.func59 (by kernel_rfl) (pl := .p) fun _ => by kernel_rfl, by kernel_rfl⟩
def c_28 : Con te := ak_ te [.d (.st 4)] [(.st 4, []), (.sl (.st 2), [some 38])] true fun a => c9_ a.1
theorem ok_28 : OKF 28 c_28 := ⟨af_ ai_ (ae_ ok_59 ag_) Tryz.func28 (by kernel_rfl) (pl := .s .p (.s .p (.s .p (.s (.s .p (.lp ⟨[(4, .one (.own 10)), (5, .d (.int .i64))], [(10, false, .row 38 (.st 2) [])], [1, 2], [0, 2], [], 11⟩ ⟨[(4, .one (.own 10))], [(10, false, .row 38 (.st 2) [])], [1, 2], [0, 2], [], 11⟩ false .p)) .p)))) fun _ => by kernel_rfl, by kernel_rfl⟩
def c_24 : Con te := ak_ te [.d (.sl (.st 2)), .d (.sl (.st 2))] [(.bool, [])] false fun a => f7_ a.1 a.2.1
theorem ok_24 : OKF 24 c_24 := ⟨af_ ai_ (ae_ ok_38 ag_) Tryz.func24 (by kernel_rfl) (pl := .s .p (.s .p (.s (.s .p (.lp ⟨[(5, .d (.int .i64))], [], [0, 1], [], [], 7⟩ ⟨[], [], [], [], [], 7⟩ true (.s .p (.s (.s (.dr [0, 0, 0, 0, 0, 0, 0, 0, 0, 0] [] false []) .p) .p)))) .p))) fun _ => by kernel_rfl, by kernel_rfl⟩
def c_29 : Con te := ak_ te [.d (.st 4)] [(.st 4, []), (.int .i64, []), (.int .i64, [])] true fun a => nc_ a.1
theorem ok_29 : OKF 29 c_29 := ⟨af_ ai_ (ae_ lI_ (ae_ ok_39 ag_)) Tryz.func29 (by kernel_rfl) (pl := .s .p (.s .p (.s .p (.s .p (.s (.lp ⟨[(6, .d (.int .i64))], [], [1, 2, 5], [0, 2, 7, 8, 10], [], 19⟩ ⟨[(6, .d (.int .i64))], [], [2, 5], [2, 7, 8, 10], [], 19⟩ false .p) .p))))) fun _ => by kernel_rfl, by kernel_rfl⟩
def c_30 : Con te := ak_ te [.d (.st 4)] [(.st 4, []), (.int .i64, []), (.int .i64, [])] true fun a => kq_ a.1
theorem ok_30 : OKF 30 c_30 := ⟨af_ ai_ ag_ Tryz.func30 (by kernel_rfl) (pl := .s .p (.s .p (.s .p (.s (.lp ⟨[(5, .d (.int .i64))], [], [1, 2], [0, 2], [], 11⟩ ⟨[(5, .d (.int .i64))], [], [1, 2], [0, 2], [], 11⟩ false .p) .p)))) fun _ => by kernel_rfl, by kernel_rfl⟩
def c_134 : Con te := ak_ te [.d (.int .i64)] [(.bool, [])] false fun a => gJ_ a.1
theorem ok_134 : OKF 134 c_134 := ⟨af_ ai_ ag_ Tryz.func134 (by kernel_rfl) (pl := .p) fun _ => by kernel_rfl, by kernel_rfl⟩
def c_101 : Con te := ak_ te [.d (.int .i64), .d (.int .i64)] [(.bool, [])] false fun a => hx_ a.1 a.2.1
theorem ok_101 : OKF 101 c_101 := ⟨af_ ai_ (ae_ ok_134 ag_) Tryz.func101 (by kernel_rfl) (pl := .p) fun _ => by kernel_rfl, by kernel_rfl⟩
def c_102 : Con te := ak_ te [.d (.int .i64)] [(.bool, [])] false fun a => cu_ a.1
theorem ok_102 : OKF 102 c_102 := ⟨af_ ai_ ag_ Tryz.func102 (by kernel_rfl) (pl := .p) fun _ => by kernel_rfl, by kernel_rfl⟩
def c_61 : Con te := ak_ te [.d (.sl (.int .i64)), .d (.int .i64)] [(.int .i64, []), (.bool, [])] false fun a => cr_ a.1 a.2.1
theorem ok_61 : OKF 61 c_61 := ⟨af_ ai_ (ae_ ok_102 (ae_ ok_101 ag_)) Tryz.func61 (by kernel_rfl) (pl := .s .p (.s .p (.s .p (.s (.lp ⟨[(7, .d (.int .i64)), (8, .d (.int .i64))], [], [0, 1, 6], [], [], 8⟩ ⟨[(7, .d (.int .i64))], [], [0, 1, 6], [], [], 8⟩ false .p) .p)))) fun _ => by kernel_rfl, by kernel_rfl⟩
def c_31 : Con te := ak_ te [.d (.st 4), .d (.int .i64)] [(.st 4, []), (.int .i64, [])] true fun a => lF_ a.1 a.2.1
theorem ok_31 : OKF 31 c_31 := ⟨af_ ai_ (ae_ lH_ (ae_ ok_61 (ae_ ok_39 ag_))) Tryz.func31 (by kernel_rfl) (pl := .p) fun _ => by kernel_rfl, by kernel_rfl⟩
def c_32 : Con te := ak_ te [.d (.st 4), .d (.int .i64)] [(.st 4, []), (.int .i64, [])] true fun a => jk_ a.1 a.2.1
theorem ok_32 : OKF 32 c_32 := ⟨af_ ai_ ag_ Tryz.func32 (by kernel_rfl) (pl := .s .p (.s .p (.s (.s .p (.lp ⟨[(6, .one (.own 7)), (7, .d (.int .i64))], [(7, false, .row 3 (.int .i64) [])], [1, 2, 4], [0, 2], [], 8⟩ ⟨[(6, .one (.own 7))], [(7, false, .row 3 (.int .i64) [])], [2, 4], [0, 2], [], 8⟩ false (.s .p (.j ⟨[(6, .one (.own 13))], [(13, false, .row 3 (.int .i64) [])], [1, 2, 4, 7], [0, 2], [], 14⟩ false .p .p)))) .p))) fun _ => by kernel_rfl, by kernel_rfl⟩
def c_9 : Con te := ak_ te [.d (.st 4), .d (.int .i64)] [(.bool, [])] false fun a => f8_ a.1 a.2.1
theorem ok_9 : OKF 9 c_9 := ⟨af_ ai_ (ae_ ok_12 (ae_ ok_24 (ae_ ok_14 (ae_ ok_32 (ae_ ok_31 (ae_ ok_30 (ae_ ok_29 (ae_ ok_28 (ae_ ok_27 (ae_ ok_11 (ae_ ok_13 (ae_ ok_10 ag_)))))))))))) Tryz.func9 (by kernel_rfl) (pl := .p) fun _ => by kernel_rfl, by kernel_rfl⟩
end
end Go.Proofs.YtolgkhjkdadhiaaGreat
namespace Go
namespace Rt
theorem an_ {n : Int} (h : I64 n) : w64 n = n := by
 unfold w64; rw [IntKind.wrap_i64]; omega
theorem wi64_eq {n : Int} (h : I64 n) : IntKind.i64.wrap n = n := an_ h
theorem wu8 (n : Int) : IntKind.u8.wrap n = n % 256 := IntKind.wrap_u8 n
theorem wu64 (n : Int) : IntKind.u64.wrap n = n % 18446744073709551616 := by simp [IntKind.wrap, IntKind.bits, IntKind.signed]
theorem ha_ {a : Nat} (ha : a < 2 ^ 64) : (BitVec.ofInt 64 (a : Int)).toNat = a := by
 rw [BitVec.toNat_ofInt]
 have : ((a : Int) % ((2 ^ 64 : Nat) : Int)) = ((a % 2 ^ 64 : Nat) : Int) := by omega
 rw [this]
 simp
 omega
theorem andI_nat {a b : Nat} (ha : a < 2 ^ 63) (hb : b < 2 ^ 63) : andI .i64 a b = ((a &&& b : Nat) : Int) := by
 have h1 : a &&& b < 2 ^ 63 := Nat.and_lt_two_pow a hb
 show IntKind.i64.wrap (((BitVec.ofInt 64 (a : Int) &&& BitVec.ofInt 64 (b : Int)).toNat : Nat) : Int) = _
 rw [BitVec.toNat_and, ha_ (by omega), ha_ (by omega)]
 exact wi64_eq ⟨by omega, by omega⟩
theorem orI_u64 {a b : Nat} (ha : a < 2 ^ 64) (hb : b < 2 ^ 64) : orI .u64 a b = ((a ||| b : Nat) : Int) := by
 have h1 : a ||| b < 2 ^ 64 := Nat.or_lt_two_pow ha hb
 show IntKind.u64.wrap (((BitVec.ofInt 64 (a : Int) ||| BitVec.ofInt 64 (b : Int)).toNat : Nat) : Int) = _
 rw [BitVec.toNat_or, ha_ ha, ha_ hb, wu64]
 omega
theorem andNotI_nat {a b : Nat} (ha : a < 2 ^ 63) (hb : b < 2 ^ 63) : es_ .i64 a b = ((a &&& (2 ^ 64 - 1 - b) : Nat) : Int) := by
 have h1 : a &&& (2 ^ 64 - 1 - b) < 2 ^ 63 := Nat.lt_of_le_of_lt Nat.and_le_left ha
 show IntKind.i64.wrap (((BitVec.ofInt 64 (a : Int) &&& ~~~(BitVec.ofInt 64 (b : Int))).toNat : Nat) : Int) = _
 rw [BitVec.toNat_and, BitVec.toNat_not, ha_ (by omega), ha_ (by omega)]
 exact wi64_eq ⟨by omega, by omega⟩
theorem andNot_zero {a b : Nat} (ha : a < 2 ^ 63) (hb : b < 2 ^ 63) : (es_ .i64 a b == 0) = (andI .i64 a b == a) := by
 rw [andNotI_nat ha hb, andI_nat ha hb]
 rw [Bool.eq_iff_iff]
 simp only [beq_iff_eq]
 constructor
 ·intro h
  have h' : a &&& (2 ^ 64 - 1 - b) = 0 := by omega
  have : a &&& b = a := by
   apply Nat.eq_of_testBit_eq
   intro i
   have hi := congrArg (fun n => n.testBit i) h'
   simp only [Nat.testBit_and, Nat.zero_testBit] at hi ⊢
   by_cases hi64 : i < 64
   ·rw [show 2 ^ 64 - 1 - b = 2 ^ 64 - (b + 1) by omega, Nat.testBit_two_pow_sub_succ (by omega)] at hi
    simp only [hi64, decide_true, Bool.true_and] at hi
    cases h1 : a.testBit i <;> cases h2 : b.testBit i <;> simp_all
   ·have : a.testBit i = false := Nat.testBit_lt_two_pow (Nat.lt_of_lt_of_le ha (Nat.pow_le_pow_right (by omega) (by omega)))
    simp [this]
  omega
 ·intro h
  have h' : a &&& b = a := by omega
  have : a &&& (2 ^ 64 - 1 - b) = 0 := by
   apply Nat.eq_of_testBit_eq
   intro i
   have hi := congrArg (fun n => n.testBit i) h'
   simp only [Nat.testBit_and, Nat.zero_testBit] at hi ⊢
   by_cases hi64 : i < 64
   ·rw [show 2 ^ 64 - 1 - b = 2 ^ 64 - (b + 1) by omega, Nat.testBit_two_pow_sub_succ (by omega)]
    simp only [hi64, decide_true, Bool.true_and]
    cases h1 : a.testBit i <;> cases h2 : b.testBit i <;> simp_all
   ·have : a.testBit i = false := Nat.testBit_lt_two_pow (Nat.lt_of_lt_of_le ha (Nat.pow_le_pow_right (by omega) (by omega)))
    simp [this]
  omega
theorem and_le {a b : Nat} (h : a &&& b = a) : a ≤ b := by
 rw [← h]; exact Nat.and_le_right
theorem aa_ {α β : Type} {x : Option α} {a : α} {f : α → Option β} {r : Option β} (h : x = some a) (hr : f a = r) : x.bind f = r := by subst h; exact hr
theorem ac_ {α : Type} {c : Bool} {A B r : α} (hc : c = true) (h : A = r) : (bif c then A else B) = r := by subst hc; exact h
theorem ab_ {α : Type} {c : Bool} {A B r : α} (hc : c = false) (h : B = r) : (bif c then A else B) = r := by subst hc; exact h
theorem loopF_run {σ β : Type} {body : σ → Option (Step σ β)} (I : Nat → σ → β → Prop)
  (h0 : ∀ s b, I 0 s b → body s = some (.done b))
  (h : ∀ k s b, I (k + 1) s b → body s = some (.done b) ∨ ∃ s', body s = some (.next s') ∧ I k s' b) : ∀ {k n : Nat} {s : σ} {b : β}, I k s b → k < n → am_ body n s = some b
 | 0, n + 1, s, b, hI, _ => by simp only [am_, h0 s b hI]
 | k + 1, n + 1, s, b, hI, hk => by
  simp only [am_]
  rcases h k s b hI with hd | ⟨s', hn, hI'⟩
  ·rw [hd]
  ·rw [hn]; exact loopF_run I h0 h hI' (by omega)
theorem h7_ {σ β : Type} {body : σ → Option (Step σ β)} (n : Nat) (hn : n < BIG) (J : Nat → σ → β → Prop) (h0 : ∀ s b, J n s b → body s = some (.done b))
  (h : ∀ i s b, i < n → J i s b → body s = some (.done b) ∨ ∃ s', body s = some (.next s') ∧ J (i + 1) s' b) {s : σ} {b : β} (hJ : J 0 s b) : am_ body BIG s = some b := by
 refine loopF_run (fun k s b => k ≤ n ∧ J (n - k) s b) (fun s b hI => h0 s b (by simpa using hI.2)) (fun k s b hI => ?_) (k := n) ⟨Nat.le_refl _, by simpa using hJ⟩ hn
 obtain ⟨hk, hI⟩ := hI
 rcases h _ s b (by omega) hI with hd | ⟨s', hs, hI'⟩
 ·exact .inl hd
 ·exact .inr ⟨s', hs, by omega, by rwa [show n - (k + 1) + 1 = n - k by omega] at hI'⟩
theorem fM_ {σ β : Type} {body : σ → Option (Step σ β)} (T : Nat → σ) (n : Nat) (hn : n < BIG) {b : β} (hs : ∀ i, i < n → body (T i) = some (.next (T (i + 1)))) (hd : body (T n) = some (.done b)) : am_ body BIG (T 0) = some b := by
 refine h7_ (J := fun i s b' => s = T i ∧ b' = b) n hn (fun s b' hJ => ?_) (fun i s b' hi hJ => ?_) ⟨rfl, rfl⟩
 ·obtain ⟨rfl, rfl⟩ := hJ
  exact hd
 ·obtain ⟨rfl, rfl⟩ := hJ
  exact .inr ⟨_, hs i hi, rfl, rfl⟩
theorem loop_all {α β : Type} {body : Int → Option (Step Int (Out Unit β))} (xs : List α) (p : α → Bool) (r : β) (hn : xs.length < BIG)
  (hb : ∀ i (h : i < xs.length), body (i : Int) = if p xs[i] then some (.next ((i + 1 : Nat) : Int)) else some (.done (.ret r)))
  (he : body (xs.length : Int) = some (.done (.fall ()))) : am_ body BIG 0 = some (if xs.all p then .fall () else .ret r) := by
 refine h7_ (J := fun i s b => s = (i : Int) ∧ b = if (xs.drop i).all p then .fall () else .ret r) xs.length hn (fun s b hJ => ?_) (fun i s b hi hJ => ?_) (by simp)
 ·obtain ⟨rfl, rfl⟩ := hJ
  rw [he]; simp
 ·obtain ⟨rfl, rfl⟩ := hJ
  rw [hb i hi, List.drop_eq_getElem_cons hi, List.all_cons]
  cases hp : p xs[i] with
  | true => exact .inr ⟨_, rfl, rfl, by simp⟩
  | false => exact .inl (by simp)
theorem do_ {α : Type} (xs : List α) (i : Nat) : as_ xs (i : Int) = xs[i]? := by
 unfold as_; rw [if_pos (by omega)]; simp
theorem au_ {α : Type} {xs : List α} {i : Nat} (h : i < xs.length) : as_ xs (i : Int) = some xs[i] := by
 rw [do_, List.getElem?_eq_getElem h]
theorem ei_ {s : Str} {i : Nat} (h : i < s.length) : bS_ s (i : Int) = some (s[i].toNat : Int) := by
 unfold bS_; rw [au_ h]; rfl
theorem cY_ {a b : Str} (h : a.length + b.length ≤ 9223372036854775807) : cat a b = some (a ++ b) := by
 unfold cat; rw [if_pos h]
theorem bc_ {α : Type} {bytes : Nat} {xs ys : List α} (h1 : xs.length + ys.length ≤ 9223372036854775807) (h2 : (xs.length + ys.length) * bytes ≤ 140737488355328) : br_ bytes xs ys = some (xs ++ ys) := by
 unfold br_; rw [if_pos ⟨h1, h2⟩]
theorem f9_ {α : Type} {xs : List α} {lo hi : Int} (h0 : 0 ≤ lo) (h1 : lo ≤ hi) (h2 : hi ≤ xs.length) : bX_ xs lo hi = some ((xs.take hi.toNat).drop lo.toNat) := by
 unfold bX_; rw [if_pos ⟨h0, h1, h2⟩]
theorem makeI_eq {α : Type} {bytes : Nat} {z : α} {n : Int} (h0 : 0 ≤ n) (h1 : n ≤ 9223372036854775807) (h2 : bytes * n ≤ 281474976710656) : if_ bytes z n = some (List.replicate n.toNat z) := by
 unfold if_; rw [if_pos ⟨h0, h1, h2⟩]
theorem shrI_eq {k : IntKind} {x y : Int} (h : 0 ≤ y) (h2 : y ≤ k.bits) : shrI k x y = some (x.fdiv (2 ^ y.toNat)) := by
 unfold shrI; rw [if_neg (by omega), show min y.toNat k.bits = y.toNat by omega]
def dL_ (n : Int) (i : Nat) : Int := n.fdiv (2 ^ (8 * i)) % 256
def leL (n : Int) (w : Nat) : List Int := (List.range w).map (dL_ n)
def leB (n : Int) (w : Nat) : Str := cf_ (leL n w)
theorem leL_len (n : Int) (w : Nat) : (leL n w).length = w := by simp [leL]
theorem az_ (n : Int) (w : Nat) : (leB n w).length = w := by simp [leB, cf_, leL_len]
theorem leL_succ (n : Int) (w : Nat) : leL n (w + 1) = leL n w ++ [dL_ n w] := by simp [leL, List.range_succ]
theorem n2_ (n : Int) (w : Nat) : leB n (w + 1) = leB n w ++ cf_ [dL_ n w] := by simp [leB, cf_, leL_succ]
theorem n3_ (n : Int) (i : Nat) (hi : i < 8) : shrI .i64 n (w64 (8 * (i : Int))) = some (n.fdiv (2 ^ (8 * i))) := by
 rw [an_ ⟨by omega, by omega⟩, shrI_eq (by omega) (by show 8 * (i : Int) ≤ (64 : Nat); omega)]
 rw [show (8 * (i : Int)).toNat = 8 * i by omega]
theorem set_mid {α : Type} (A : List α) (k : Nat) (z v : α) : (A ++ List.replicate (k + 1) z).set A.length v = A ++ [v] ++ List.replicate k z := by
 simp [List.replicate_succ]
theorem o9_ (i : Nat) : dL_ (-1) i = 255 := by
 unfold dL_
 have hp : (0 : Int) < 2 ^ (8 * i) := Int.pow_pos (by omega)
 have : (-1 : Int).fdiv (2 ^ (8 * i)) = -1 := by
  rw [Int.fdiv_eq_ediv_of_nonneg _ (by omega)]
  rw [Int.ediv_eq_iff_of_pos hp]
  omega
 rw [this]
 rfl
end Rt
end Go
namespace Go.Proofs.YtolgkhjkdadhiaaGreat
open Go.Rt Go.RowKit
def iK_ (b : UInt8) : Bool := decide (33 ≤ b.toNat) && decide (b.toNat ≤ 126) && (b.toNat != 47)
def b7_ (s : Str) : Bool := decide (1 ≤ s.length) && decide (s.length ≤ 64) && (s != [46]) && (s != [46, 46]) && s.all iK_
theorem path_loop (s : Str) (h : s.length ≤ 9223372036854775807) : am_ (gz_ s) BIG 0 = some (if s.all iK_ then .fall () else .ret false) := by
 have hB : BIG = 18446744073709551616 := rfl
 refine loop_all s iK_ false (by omega) (fun i hi => ?_) ?_
 ·unfold gz_
  rw [ei_ hi]
  have h1 : decide ((i : Int) < (s.length : Int)) = true := by simp; omega
  rw [h1, an_ (n := (i : Int) + 1) ⟨by omega, by omega⟩]
  generalize s[i] = b
  simp only [cond_true, Option.bind_some]
  have e : iK_ b = !(decide ((b.toNat : Int) < 33) || decide ((b.toNat : Int) > 126) || (b.toNat : Int) == 47) := by
   unfold iK_
   rw [Bool.eq_iff_iff]
   simp only [Bool.and_eq_true, decide_eq_true_eq, bne_iff_ne, Bool.not_eq_true', Bool.or_eq_false_iff, decide_eq_false_iff_not, beq_eq_false_iff_ne]
   omega
  rw [e]
  cases h1 : decide ((b.toNat : Int) < 33) <;> cases h2 : decide ((b.toNat : Int) > 126) <;> cases h3 : ((b.toNat : Int) == 47) <;> simp
 ·unfold gz_
  have h1 : decide ((s.length : Int) < (s.length : Int)) = false := by simp
  rw [h1]; rfl
theorem n4_ (s : Str) (h : s.length ≤ 9223372036854775807) : f3_ s = some (b7_ s) := by
 have hB : BIG = 18446744073709551616 := rfl
 unfold f3_ b7_
 rw [path_loop s h]
 simp only [Option.bind_some]
 have e1 : (s == []) = !decide (1 ≤ s.length) := by
  cases s with
  | nil => rfl
  | cons a l => rw [Bool.eq_iff_iff]; simp
 have e2 : decide ((s.length : Int) > 64) = !decide (s.length ≤ 64) := by
  rw [Bool.eq_iff_iff]; simp; omega
 rw [e1, e2]
 simp only [bne]
 cases decide (1 ≤ s.length) <;> cases decide (s.length ≤ 64) <;> cases (s == [46]) <;> cases (s == [46, 46]) <;> cases s.all iK_ <;> simp
theorem put_loop (n : Int) (w : Nat) (hw : w ≤ 8) : am_ (fI_ (List.replicate w (0 : Int)) n) BIG (0, List.replicate w (0 : Int)) = some (leL n w) := by
 have hB : BIG = 18446744073709551616 := rfl
 have h := fM_ (body := fI_ (List.replicate w (0 : Int)) n) (fun i => ((i : Int), leL n i ++ List.replicate (w - i) (0 : Int))) w (by omega) (b := leL n w) (fun i hi => ?_) ?_
 ·simpa [leL] using h
 ·unfold fI_
  have h1 : decide ((i : Int) < ((List.replicate w (0 : Int)).length : Int)) = true := by simp; omega
  simp only [h1, cond_true]
  rw [n3_ n i (by omega)]
  simp only [Option.bind_some]
  have h2 : (leL n i ++ List.replicate (w - i) (0 : Int)).length = w := by simp [leL_len]; omega
  rw [au_ (by omega : i < (leL n i ++ List.replicate (w - i) (0 : Int)).length)]
  simp only [Option.bind_some, Int.toNat_natCast]
  rw [an_ (n := (i : Int) + 1) ⟨by omega, by omega⟩, wu8]
  have h3 := set_mid (leL n i) (w - (i + 1)) (0 : Int) (dL_ n i)
  rw [leL_len, show w - (i + 1) + 1 = w - i by omega] at h3
  rw [leL_succ]
  show some (Step.next ((i : Int) + 1, (leL n i ++ List.replicate (w - i) (0 : Int)).set i (dL_ n i))) = _
  rw [h3]
  rfl
 ·unfold fI_
  have h1 : decide ((w : Int) < ((List.replicate w (0 : Int)).length : Int)) = false := by simp
  simp only [h1, cond_false]
  simp
def bF_ (n : Int) (w : Nat) : Bool := decide (0 ≤ n) && (decide (8 ≤ w) || decide (n < 2 ^ (8 * w)))
theorem iY_ (n : Int) (w : Nat) (h1 : 1 ≤ w) (h8 : w ≤ 8) : d3_ n (w : Int) = some (if bF_ n w then (leB n w, 0) else ([], 5)) := by
 unfold d3_
 refine ab_ (by rw [Bool.or_eq_false_iff]; exact ⟨by simp; omega, by simp; omega⟩) ?_
 refine aa_ (a := !(bF_ n w)) ?_ ?_
 ·unfold bF_
  by_cases h0 : n < 0
  ·refine ac_ (by simpa using h0) ?_
   have : decide (0 ≤ n) = false := by simp; omega
   rw [this]; rfl
  ·refine ab_ (by simpa using h0) ?_
   have h0' : decide (0 ≤ n) = true := by simp; omega
   rw [h0']
   by_cases hlt : w < 8
   ·have e8 : decide (8 ≤ w) = false := by simp; omega
    rw [e8]
    refine aa_ (a := !(decide (n < 2 ^ (8 * w)))) (ac_ (by simp; omega) (aa_ (n3_ n w hlt) ?_)) (by simp)
    have hp : (0 : Int) < 2 ^ (8 * w) := Int.pow_pos (by omega)
    rw [Int.fdiv_eq_ediv_of_nonneg _ (by omega)]
    congr 1
    by_cases hn : n < 2 ^ (8 * w)
    ·rw [Int.ediv_eq_zero_of_lt (by omega) hn]
     simp [hn]
    ·have : 1 ≤ n / 2 ^ (8 * w) := by
      rw [Int.le_ediv_iff_mul_le hp]; omega
     simp [hn]; omega
   ·have e8 : decide (8 ≤ w) = true := by simp; omega
    rw [e8]
    exact aa_ (a := false) (ab_ (by simp; omega) rfl) rfl
 ·cases hf : bF_ n w with
  | false => exact ac_ rfl rfl
  | true =>
   refine ab_ rfl ?_
   refine aa_ (makeI_eq (by omega) (by omega) (by omega)) ?_
   rw [Int.toNat_natCast]
   exact aa_ (put_loop n w h8) rfl
theorem jS_ (n : Int) (w : Nat) (h1 : 1 ≤ w) (h8 : w ≤ 8) (h0 : 0 ≤ n) (hn : w < 8 → n < 2 ^ (8 * w)) : d3_ n (w : Int) = some (leB n w, 0) := by
 rw [iY_ n w h1 h8, if_pos]
 unfold bF_
 rw [Bool.and_eq_true, Bool.or_eq_true]
 refine ⟨by simpa using h0, ?_⟩
 rcases Nat.lt_or_ge w 8 with h | h
 ·exact .inr (by simpa using hn h)
 ·exact .inl (by simpa using h)
def dl_ (s : Str) : Str := leB (s.length : Int) 2 ++ s
theorem dg_ (s : Str) : (dl_ s).length = 2 + s.length := by simp [dl_, az_]
theorem text_put (s : Str) (h : s.length ≤ 65535) : e6_ s = some (dl_ s, 0) := by
 unfold e6_
 have c : decide ((s.length : Int) > 65535) = false := by simp; omega
 rw [c]
 simp only [cond_false]
 have h2 := jS_ (s.length : Int) 2 (by omega) (by omega) (by omega) (fun _ => by show (s.length : Int) < 2 ^ 16; omega)
 rw [show ((2 : Nat) : Int) = 2 from rfl] at h2
 rw [h2]
 simp only [Option.bind_some]
 rw [cY_ (by rw [az_]; omega)]
 rfl
def leV : Str → Nat
 | [] => 0
 | b :: r => b.toNat + 256 * leV r
theorem fN_ : ∀ (s : Str), leV s < 2 ^ (8 * s.length)
 | [] => by simp [leV]
 | b :: r => by
  have h := fN_ r
  have hb := b.toNat_lt
  simp only [leV, List.length_cons]
  rw [show 8 * (r.length + 1) = 8 * r.length + 8 by omega, Nat.pow_add]
  omega
def win (s : Str) (at_ w : Nat) : Str := (s.drop at_).take w
theorem bp_ {s : Str} {at_ w : Nat} (h : at_ + w ≤ s.length) : (win s at_ w).length = w := by simp [win]; omega
theorem lJ_ {s : Str} {at_ w j : Nat} (h : at_ + w ≤ s.length) (hj : j < w) : (win s at_ w).drop (w - (j + 1)) = s[at_ + (w - 1 - j)]'(by omega) :: (win s at_ w).drop (w - j) := by
 have hl := bp_ h
 rw [List.drop_eq_getElem_cons (by omega : w - (j + 1) < (win s at_ w).length)]
 congr 1
 ·simp only [win, List.getElem_take, List.getElem_drop]
  congr 1
  omega
 ·congr 1
  omega
theorem or_byte (a b : Nat) (hb : b < 256) : (a * 256) ||| b = a * 256 + b := by
 have := Nat.shiftLeft_add_eq_or_of_lt (i := 8) (b := b) (by omega) a
 rw [Nat.shiftLeft_eq] at this
 exact this.symm
theorem get_loop (s : Str) (at_ w : Nat) (h1 : 1 ≤ w) (h8 : w ≤ 8) (h : at_ + w ≤ s.length) (hs : s.length ≤ 9223372036854775807) : am_ (fJ_ s (at_ : Int)) BIG (0, w64 ((w : Int) - 1)) = some (leV (win s at_ w) : Int) := by
 have hB : BIG = 18446744073709551616 := rfl
 have hw := fM_ (body := fJ_ s (at_ : Int)) (fun j => (((leV ((win s at_ w).drop (w - j)) : Nat) : Int), (w : Int) - 1 - (j : Int))) w (by omega) (b := (leV (win s at_ w) : Int)) (fun j hj => ?_) ?_
 ·have e : (win s at_ w).drop (w - 0) = [] := List.drop_eq_nil_of_le (by rw [bp_ h]; omega)
  simp only [e, leV] at hw
  rw [an_ ⟨by omega, by omega⟩]
  simpa using hw
 ·unfold fJ_
  have hlt := fN_ ((win s at_ w).drop (w - j))
  have hdl : ((win s at_ w).drop (w - j)).length = j := by rw [List.length_drop, bp_ h]; omega
  rw [hdl] at hlt
  have hpw : 2 ^ (8 * j) ≤ 2 ^ 56 := Nat.pow_le_pow_right (by omega) (by omega)
  refine ac_ (by simp; omega) ?_
  have ei : w64 ((at_ : Int) + ((w : Int) - 1 - (j : Int))) = ((at_ + (w - 1 - j) : Nat) : Int) := by
   rw [an_ ⟨by omega, by omega⟩]; omega
  show Option.bind (bS_ s (w64 ((at_ : Int) + ((w : Int) - 1 - (j : Int))))) _ = _
  rw [ei]
  refine aa_ (ei_ (by omega)) ?_
  rw [lJ_ h hj]
  simp only [leV]
  generalize s[at_ + (w - 1 - j)]'(by omega) = b
  have hb := b.toNat_lt
  generalize leV ((win s at_ w).drop (w - j)) = v at hlt ⊢
  show some (Step.next (orI .u64 (IntKind.u64.wrap ((v : Int) * 2 ^ 8)) (IntKind.u64.wrap (b.toNat : Int)), w64 ((w : Int) - 1 - (j : Int) - 1))) = _
  have e1 : IntKind.u64.wrap ((v : Int) * 2 ^ 8) = ((v * 256 : Nat) : Int) := by rw [wu64]; omega
  have e2 : IntKind.u64.wrap (b.toNat : Int) = (b.toNat : Int) := by rw [wu64]; omega
  rw [e1, e2, orI_u64 (by omega) (by omega), or_byte _ _ hb, an_ ⟨by omega, by omega⟩]
  congr 3
  ·omega
  ·omega
 ·unfold fJ_
  refine ab_ (by simp; omega) ?_
  simp
theorem gq_ (s : Str) (at_ w : Nat) (h1 : 1 ≤ w) (h8 : w ≤ 8) (h : at_ ≤ s.length) (hs : s.length ≤ 9223372036854775807) :
  cP_ s (at_ : Int) (w : Int) = some (if s.length - at_ < w then (0, 0, 3) else if leV (win s at_ w) > 9223372036854775807 then (0, 0, 5) else ((leV (win s at_ w) : Int), ((at_ + w : Nat) : Int), 0)) := by
 unfold cP_
 refine ab_ (by simp; omega) ?_
 have el : w64 ((s.length : Int) - (at_ : Int)) = ((s.length - at_ : Nat) : Int) := by rw [an_ ⟨by omega, by omega⟩]; omega
 rw [el]
 by_cases hlt : s.length - at_ < w
 ·rw [if_pos hlt]
  exact ac_ (by simp; omega) rfl
 ·rw [if_neg hlt]
  refine ab_ (by simp; omega) ?_
  refine aa_ (get_loop s at_ w h1 h8 (by omega) hs) ?_
  by_cases hv : leV (win s at_ w) > 9223372036854775807
  ·rw [if_pos hv]
   exact ac_ (by simp; omega) rfl
  ·rw [if_neg hv]
   refine ab_ (by simp; omega) ?_
   rw [an_ (n := (leV (win s at_ w) : Int)) ⟨by omega, by omega⟩, an_ (n := (at_ : Int) + (w : Int)) ⟨by omega, by omega⟩]
   rfl
theorem eC_ (s : Str) (at_ w : Nat) (h : at_ + w ≤ s.length) (hs : s.length ≤ 9223372036854775807) : bX_ s (at_ : Int) (w64 ((at_ : Int) + (w : Int))) = some (win s at_ w) := by
 rw [an_ ⟨by omega, by omega⟩, f9_ (by omega) (by omega) (by omega)]
 congr 1
 simp only [win, Int.toNat_natCast]
 rw [show ((at_ : Int) + (w : Int)).toNat = at_ + w by omega, List.drop_take, show at_ + w - at_ = w by omega]
theorem win_whole (s : Str) : win s 0 s.length = s := by simp [win]
def aX_ (s : Str) (a : Nat) : Option (Str × Nat) :=
 if s.length < a + 2 then none else if s.length < a + 2 + leV (win s a 2) then none else some (win s (a + 2) (leV (win s a 2)), a + 2 + leV (win s a 2))
theorem cv_ {s t : Str} {a p : Nat} (h : aX_ s a = some (t, p)) : p ≤ s.length ∧ t.length ≤ s.length ∧ a + 2 ≤ p := by
 unfold aX_ at h
 split at h
 ·cases h
 ·split at h
  ·cases h
  ·rename_i h1 h2
   simp only [Option.some.injEq, Prod.mk.injEq] at h
   obtain ⟨rfl, rfl⟩ := h
   refine ⟨by omega, ?_, by omega⟩
   rw [bp_ (by omega)]; omega
theorem two_bytes (s : Str) (a : Nat) (h : a + 2 ≤ s.length) : leV (win s a 2) = (s[a]'(by omega)).toNat + 256 * (s[a + 1]'(by omega)).toNat := by
 have e : win s a 2 = [s[a]'(by omega), s[a + 1]'(by omega)] := by
  unfold win
  rw [List.drop_eq_getElem_cons (by omega), List.drop_eq_getElem_cons (by omega)]
  rfl
 rw [e]
 simp [leV]
theorem fo_ (s : Str) (a : Nat) (h : a + 2 ≤ s.length) : leV (win s a 2) < 65536 := by
 have := fN_ (win s a 2)
 rw [bp_ h] at this
 exact this
theorem lK_ (s : Str) (a : Nat) (h : a ≤ s.length) (hs : s.length ≤ 1000000) : e7_ s (a : Int) = some (match aX_ s a with | none => ([], 0, 3) | some (t, p) => (t, (p : Int), 0)) := by
 unfold e7_
 have hg := gq_ s a 2 (by omega) (by omega) h (by omega)
 rw [show ((2 : Nat) : Int) = 2 from rfl] at hg
 unfold aX_
 by_cases h2 : s.length < a + 2
 ·rw [if_pos (by omega)] at hg
  rw [if_pos h2]
  refine aa_ hg ?_
  exact ac_ rfl rfl
 ·have hv := fo_ s a (by omega)
  rw [if_neg (by omega), if_neg (by omega)] at hg
  rw [if_neg h2]
  refine aa_ hg ?_
  refine ab_ rfl ?_
  have ew : w64 ((s.length : Int) - ((a + 2 : Nat) : Int)) = ((s.length - (a + 2) : Nat) : Int) := by rw [an_ ⟨by omega, by omega⟩]; omega
  have ex : w64 (((a + 2 : Nat) : Int) + (leV (win s a 2) : Int)) = ((a + 2 + leV (win s a 2) : Nat) : Int) := by rw [an_ ⟨by omega, by omega⟩]; omega
  by_cases h3 : s.length < a + 2 + leV (win s a 2)
  ·rw [if_pos h3]
   refine ac_ ?_ rfl
   show decide (w64 ((s.length : Int) - ((a + 2 : Nat) : Int)) < (leV (win s a 2) : Int)) = true
   rw [ew]; simp only [decide_eq_true_eq]; omega
  ·rw [if_neg h3]
   refine ab_ ?_ ?_
   ·show decide (w64 ((s.length : Int) - ((a + 2 : Nat) : Int)) < (leV (win s a 2) : Int)) = false
    rw [ew]; simp only [decide_eq_false_iff_not]; omega
   refine aa_ (eC_ s (a + 2) (leV (win s a 2)) (by omega) (by omega)) ?_
   show some (_, w64 (((a + 2 : Nat) : Int) + (leV (win s a 2) : Int)), (0 : Int)) = _
   rw [ex]
theorem leV_leL : ∀ (w : Nat) (n : Nat), n < 2 ^ (8 * w) → leV (leB (n : Int) w) = n := by
 have key : ∀ (l : Str) (b : UInt8), leV (l ++ [b]) = leV l + 2 ^ (8 * l.length) * b.toNat := by
  intro l
  induction l with
  | nil => intro b; simp [leV]
  | cons a l ih =>
   intro b
   simp only [List.cons_append, leV, ih, List.length_cons]
   rw [show 8 * (l.length + 1) = 8 * l.length + 8 by omega, Nat.pow_add, Nat.mul_add]
   have : 256 * (2 ^ (8 * l.length) * b.toNat) = 2 ^ (8 * l.length) * 2 ^ 8 * b.toNat := by
    rw [show (2 : Nat) ^ 8 = 256 from rfl, Nat.mul_comm (2 ^ (8 * l.length)) 256, Nat.mul_assoc]
   omega
 have gen : ∀ (w n : Nat), leV (leB (n : Int) w) = n % 2 ^ (8 * w) := by
  intro w
  induction w with
  | zero => intro n; simp [leB, leL, cf_, leV, Nat.mod_one]
  | succ w ih =>
   intro n
   have hb : (dL_ (n : Int) w).toNat = n / 2 ^ (8 * w) % 256 := by
    unfold dL_
    have hp : ((2 : Int) ^ (8 * w)) = ((2 ^ (8 * w) : Nat) : Int) := by simp
    rw [hp, Int.fdiv_eq_ediv_of_nonneg _ (Int.natCast_nonneg _)]
    have : ((n : Int) / ((2 ^ (8 * w) : Nat) : Int)) = ((n / 2 ^ (8 * w) : Nat) : Int) := rfl
    rw [this]
    generalize n / 2 ^ (8 * w) = q
    omega
   rw [n2_, show cf_ [dL_ (n : Int) w] = [UInt8.ofNat (dL_ (n : Int) w).toNat] from rfl, key, ih, az_, hb]
   have h8 : (UInt8.ofNat (n / 2 ^ (8 * w) % 256)).toNat = n / 2 ^ (8 * w) % 256 := by simp
   rw [h8, show 8 * (w + 1) = 8 * w + 8 by omega, Nat.pow_add, Nat.mod_mul]
 intro w n hn
 rw [gen, Nat.mod_eq_of_lt hn]
theorem ng_ : ∀ (s : Str), leB (leV s : Int) s.length = s := by
 have inj : ∀ (s t : Str), s.length = t.length → leV s = leV t → s = t := by
  intro s
  induction s with
  | nil => intro t h _; cases t with | nil => rfl | cons _ _ => simp at h
  | cons b s ih =>
   intro t h hv
   cases t with
   | nil => simp at h
   | cons c t =>
    simp only [leV] at hv
    have hb := b.toNat_lt
    have hc := c.toNat_lt
    have h1 : b.toNat = c.toNat := by omega
    have h2 : leV s = leV t := by omega
    rw [UInt8.toNat_inj.1 h1, ih t (by simpa using h) h2]
 intro s
 exact inj _ _ (az_ _ _) (leV_leL _ _ (fN_ s))
end Go.Proofs.YtolgkhjkdadhiaaGreat
namespace Go.Proofs.YtolgkhjkdadhiaaGreat
open Go.Rt Go.RowKit
def api_Qid.ok (d : api_Qid) : Prop := InK .i64 d.Type_ ∧ InK .i64 d.Vers_ ∧ InK .i64 d.Path_
def api_Dir.ok (d : api_Dir) : Prop := InK .i64 d.Type_ ∧ InK .i64 d.Dev_ ∧ d.Qid_.ok ∧ InK .i64 d.Mode_ ∧ InK .i64 d.Atime_ ∧ InK .i64 d.Mtime_ ∧ InK .i64 d.Length_ ∧ d.Name_.length ≤ 9223372036854775807 ∧ d.Uid_.length ≤ 9223372036854775807 ∧ d.Gid_.length ≤ 9223372036854775807 ∧ d.Muid_.length ≤ 9223372036854775807
theorem loop_all2 {α β γ : Type} {body : Int × γ → Option (Step (Int × γ) (Out Unit β))} (c : γ) (xs : List α) (p : α → Bool) (r : β) (hn : xs.length < BIG)
  (hb : ∀ i (h : i < xs.length), body ((i : Int), c) = if p xs[i] then some (.next (((i + 1 : Nat) : Int), c)) else some (.done (.ret r)))
  (he : body ((xs.length : Int), c) = some (.done (.fall ()))) : am_ body BIG (0, c) = some (if xs.all p then .fall () else .ret r) := by
 refine h7_ (J := fun i s b => s = ((i : Int), c) ∧ b = if (xs.drop i).all p then .fall () else .ret r) xs.length hn (fun s b hJ => ?_) (fun i s b hi hJ => ?_) (by simp)
 ·obtain ⟨rfl, rfl⟩ := hJ
  rw [he]; simp
 ·obtain ⟨rfl, rfl⟩ := hJ
  rw [hb i hi, List.drop_eq_getElem_cons hi, List.all_cons]
  cases hp : p xs[i] with
  | true => exact .inr ⟨_, rfl, rfl, by simp⟩
  | false => exact .inl (by simp)
def hy_ (m : stat_number) : Bool := decide (-1 ≤ m.n_) && decide (m.n_ ≤ m.most_)
def ck_ (x : api_Dir) : List stat_number := [(stat_number.mk x.Type_ 2 65534), (stat_number.mk x.Dev_ 4 4294967294), (stat_number.mk x.Qid_.Type_ 1 232), (stat_number.mk x.Qid_.Vers_ 4 2147483647), (stat_number.mk x.Qid_.Path_ 8 1099511627776), (stat_number.mk x.Mode_ 4 3892314623), (stat_number.mk x.Atime_ 8 1099511627776), (stat_number.mk x.Mtime_ 8 1099511627776), (stat_number.mk x.Length_ 8 9007199254740991)]
theorem pa_ (x : api_Dir) : ho_ x = some (ck_ x) := rfl
theorem check_loop (ns : List stat_number) (h : ns.length ≤ 1000) : am_ (gA_ ns) BIG (0, ns) = some (if ns.all hy_ then .fall () else .ret 5) := by
 have hB : BIG = 18446744073709551616 := rfl
 refine loop_all2 ns ns hy_ 5 (by omega) (fun i hi => ?_) ?_
 ·unfold gA_
  simp only
  rw [au_ hi]
  have h1 : decide ((i : Int) < (ns.length : Int)) = true := by simp; omega
  rw [h1, an_ (n := (i : Int) + 1) ⟨by omega, by omega⟩]
  generalize ns[i] = m
  simp only [cond_true, Option.bind_some]
  have e : hy_ m = !(decide (m.n_ < -1) || decide (m.n_ > m.most_)) := by
   unfold hy_
   rw [Bool.eq_iff_iff]
   simp only [Bool.and_eq_true, decide_eq_true_eq, Bool.not_eq_true', Bool.or_eq_false_iff, decide_eq_false_iff_not]
   omega
  rw [e]
  cases decide (m.n_ < -1) <;> cases decide (m.n_ > m.most_) <;> simp
 ·unfold gA_
  have h1 : decide ((ns.length : Int) < (ns.length : Int)) = false := by simp
  rw [h1]; rfl
def cA_ (x m : Int) : Bool := (x == -1) || (decide (x ≥ 0) && (andI .i64 x m == x))
def dM_ (x m : Int) : Bool := (x == -1) || (decide (x ≥ 0) && decide (x ≤ m))
theorem kr_ (x : Int) (m : Nat) (hm : m < 2 ^ 63) (hx : x ≤ 9223372036854775807) : eh_ x (m : Int) = some (cA_ x (m : Int)) := by
 unfold eh_ cA_
 by_cases h0 : 0 ≤ x
 ·obtain ⟨n, rfl⟩ : ∃ n : Nat, x = (n : Int) := ⟨x.toNat, by omega⟩
  rw [andNot_zero (by omega) hm]
 ·have h0' : decide (x ≥ 0) = false := by simp; omega
  rw [h0']
  simp
theorem k2_ (x : Int) (m : Nat) (hm : m < 2 ^ 63) (hx : x ≤ 9223372036854775807) (h : cA_ x (m : Int) = true) : dM_ x (m : Int) = true := by
 unfold cA_ at h
 unfold dM_
 by_cases h0 : 0 ≤ x
 ·obtain ⟨n, rfl⟩ : ∃ n : Nat, x = (n : Int) := ⟨x.toNat, by omega⟩
  rw [andI_nat (by omega) hm] at h
  simp only [Bool.or_eq_true, Bool.and_eq_true, beq_iff_eq, decide_eq_true_eq] at h ⊢
  rcases h with h | ⟨_, h⟩
  ·exact .inl h
  ·have : n &&& m = n := by omega
   have := and_le this
   exact .inr ⟨h0, by omega⟩
 ·simp only [Bool.or_eq_true, Bool.and_eq_true, beq_iff_eq, decide_eq_true_eq] at h ⊢
  rcases h with h | ⟨h, _⟩
  ·exact .inl h
  ·omega
theorem okNum_in (n w m : Int) : hy_ ⟨n, w, m⟩ = dM_ n m ∨ m < -1 := by
 by_cases hm : m < -1
 ·exact .inr hm
 ·refine .inl ?_
  unfold hy_ dM_
  rw [Bool.eq_iff_iff]
  simp only [Bool.or_eq_true, Bool.and_eq_true, beq_iff_eq, decide_eq_true_eq]
  omega
def cm_ (x : api_Dir) : Bool := dM_ x.Type_ 65534 && dM_ x.Dev_ 4294967294 && cA_ x.Qid_.Type_ 232 && dM_ x.Qid_.Vers_ 2147483647 && dM_ x.Qid_.Path_ 1099511627776 && cA_ x.Mode_ 3892314623 && dM_ x.Atime_ 1099511627776 && dM_ x.Mtime_ 1099511627776 && dM_ x.Length_ 9007199254740991
def h8_ (x : api_Dir) : Bool := (x.Name_ == [] || x.Name_ == [47] || b7_ x.Name_) && decide (x.Uid_.length ≤ 64) && decide (x.Gid_.length ≤ 64) && decide (x.Muid_.length ≤ 64)
def bd_ (x : api_Dir) : Int := if cm_ x then (if h8_ x then 0 else 6) else 5
theorem pb_ (x : api_Dir) (h : x.ok) : ((ck_ x).all hy_ && cA_ x.Qid_.Type_ 232 && cA_ x.Mode_ 3892314623) = cm_ x := by
 have e := fun n w m (hm : ¬ m < -1) => (okNum_in n w m).resolve_right hm
 have b1 := k2_ x.Qid_.Type_ 232 (by omega) h.2.2.1.1.2
 have b2 := k2_ x.Mode_ 3892314623 (by omega) h.2.2.2.1.2
 unfold cm_ ck_
 simp only [List.all_cons, List.all_nil, e _ _ _ (show ¬ (65534 : Int) < -1 by omega), e _ _ _ (show ¬ (4294967294 : Int) < -1 by omega), e _ _ _ (show ¬ (232 : Int) < -1 by omega), e _ _ _ (show ¬ (2147483647 : Int) < -1 by omega), e _ _ _ (show ¬ (1099511627776 : Int) < -1 by omega), e _ _ _ (show ¬ (3892314623 : Int) < -1 by omega), e _ _ _ (show ¬ (9007199254740991 : Int) < -1 by omega)]
 simp only [Int.cast_ofNat_Int] at b1 b2
 cases h1 : cA_ x.Qid_.Type_ 232 <;> cases h2 : cA_ x.Mode_ 3892314623 <;> simp_all [Bool.and_assoc]
theorem aJ_ (x : api_Dir) (h : x.ok) (hn : x.Name_.length ≤ 9223372036854775807) : f4_ x = some (bd_ x) := by
 have hl := pb_ x h
 have w1 := kr_ x.Qid_.Type_ 232 (by omega) h.2.2.1.1.2
 have w2 := kr_ x.Mode_ 3892314623 (by omega) h.2.2.2.1.2
 simp only [Int.cast_ofNat_Int] at w1 w2
 unfold f4_ bd_
 rw [pa_]
 simp only [Option.bind_some]
 rw [check_loop (ck_ x) (show (9 : Nat) ≤ 1000 by decide)]
 simp only [Option.bind_some]
 rw [← hl]
 cases h1 : (ck_ x).all hy_ with
 | false => simp
 | true =>
  simp only [if_true]
  rw [w1, w2, n4_ _ hn]
  simp only [Option.bind_some]
  have em : decide (maxI (maxI (x.Uid_.length : Int) (x.Gid_.length : Int)) (x.Muid_.length : Int) > 64) = !(decide (x.Uid_.length ≤ 64) && decide (x.Gid_.length ≤ 64) && decide (x.Muid_.length ≤ 64)) := by
   rw [Bool.eq_iff_iff]
   simp only [Bool.not_eq_true', Bool.and_eq_false_iff, decide_eq_true_eq, decide_eq_false_iff_not]
   unfold maxI
   split <;> split <;> omega
  rw [em]
  unfold h8_
  cases cA_ x.Qid_.Type_ 232 <;> cases cA_ x.Mode_ 3892314623 <;> cases (x.Name_ == []) <;> cases (x.Name_ == [47]) <;> cases b7_ x.Name_ <;> cases decide (x.Uid_.length ≤ 64) <;> cases decide (x.Gid_.length ≤ 64) <;> cases decide (x.Muid_.length ≤ 64) <;> simp
theorem repeat_eq (w : Nat) (hw : w ≤ 8) : strings_Repeat [255] (w : Int) = some (leB (-1) w) := by
 unfold strings_Repeat
 rw [if_pos ⟨by omega, by omega, by simp; omega⟩]
 simp only [Int.toNat_natCast, Option.some.injEq]
 unfold leB leL
 induction w with
 | zero => rfl
 | succ k ih =>
  rw [List.replicate_succ', List.flatten_append, ih (by omega), List.range_succ, List.map_append]
  simp [cf_, o9_]
theorem dz_ (m : stat_number) (w : Nat) (hw : m.width_ = (w : Int)) (h1 : 1 ≤ w) (h8 : w ≤ 8) (hok : hy_ m = true) (hm : w < 8 → m.most_ < 2 ^ (8 * w)) : jQ_ m = some (leB m.n_ w) := by
 unfold jQ_
 unfold hy_ at hok
 simp only [Bool.and_eq_true, decide_eq_true_eq] at hok
 rw [hw]
 by_cases hn : m.n_ = -1
 ·have c : (m.n_ == -1) = true := by simp [hn]
  rw [c, hn, repeat_eq w h8]; rfl
 ·have c : (m.n_ == -1) = false := by simp [hn]
  rw [c, jS_ m.n_ w h1 h8 (by omega) (fun h => by have := hm h; omega)]; rfl
def hz_ (x : api_Dir) : Str := leB x.Type_ 2 ++ leB x.Dev_ 4 ++ leB x.Qid_.Type_ 1 ++ leB x.Qid_.Vers_ 4 ++ leB x.Qid_.Path_ 8 ++ leB x.Mode_ 4 ++ leB x.Atime_ 8 ++ leB x.Mtime_ 8 ++ leB x.Length_ 8
def bT_ (x : api_Dir) : Str := hz_ x ++ dl_ x.Name_ ++ dl_ x.Uid_ ++ dl_ x.Gid_ ++ dl_ x.Muid_
def bL_ (x : api_Dir) : Str := leB ((bT_ x).length : Int) 2 ++ bT_ x
theorem numsB_len (x : api_Dir) : (hz_ x).length = 47 := by simp [hz_, az_]
theorem mA_ (x : api_Dir) : (bT_ x).length = 55 + x.Name_.length + x.Uid_.length + x.Gid_.length + x.Muid_.length := by simp [bT_, numsB_len, dg_]; omega
theorem n5_ (x : api_Dir) : (bL_ x).length = 57 + x.Name_.length + x.Uid_.length + x.Gid_.length + x.Muid_.length := by simp [bL_, az_, mA_]; omega
theorem ej_ (x : api_Dir) (h : bd_ x = 0) : cm_ x = true ∧ h8_ x = true := by
 unfold bd_ at h
 cases h1 : cm_ x <;> cases h2 : h8_ x <;> simp_all
theorem hb_ (x : api_Dir) (h : h8_ x = true) : x.Name_.length ≤ 64 ∧ x.Uid_.length ≤ 64 ∧ x.Gid_.length ≤ 64 ∧ x.Muid_.length ≤ 64 := by
 unfold h8_ b7_ at h
 simp only [Bool.and_eq_true, Bool.or_eq_true, beq_iff_eq, decide_eq_true_eq] at h
 obtain ⟨⟨⟨hn, h1⟩, h2⟩, h3⟩ := h
 refine ⟨?_, h1, h2, h3⟩
 rcases hn with (hn | hn) | hn
 ·rw [hn]; simp
 ·rw [hn]; simp
 ·omega
theorem rx_ (x : api_Dir) (hok : (ck_ x).all hy_ = true) : am_ (fg_ (ck_ x)) BIG ([], 0, ck_ x) = some (hz_ x) := by
 have hl : (ck_ x).length = 9 := rfl
 simp only [ck_, List.all_cons, List.all_nil, Bool.and_true, Bool.and_eq_true] at hok
 obtain ⟨o0, o1, o2, o3, o4, o5, o6, o7, o8⟩ := hok
 have s0 := dz_ _ 2 rfl (by omega) (by omega) o0 (fun _ => by show (65534 : Int) < 2 ^ 16; omega)
 have s1 := dz_ _ 4 rfl (by omega) (by omega) o1 (fun _ => by show (4294967294 : Int) < 2 ^ 32; omega)
 have s2 := dz_ _ 1 rfl (by omega) (by omega) o2 (fun _ => by show (232 : Int) < 2 ^ 8; omega)
 have s3 := dz_ _ 4 rfl (by omega) (by omega) o3 (fun _ => by show (2147483647 : Int) < 2 ^ 32; omega)
 have s4 := dz_ _ 8 rfl (by omega) (by omega) o4 (fun h => by omega)
 have s5 := dz_ _ 4 rfl (by omega) (by omega) o5 (fun _ => by show (3892314623 : Int) < 2 ^ 32; omega)
 have s6 := dz_ _ 8 rfl (by omega) (by omega) o6 (fun h => by omega)
 have s7 := dz_ _ 8 rfl (by omega) (by omega) o7 (fun h => by omega)
 have s8 := dz_ _ 8 rfl (by omega) (by omega) o8 (fun h => by omega)
 let bs : List Str := [leB x.Type_ 2, leB x.Dev_ 4, leB x.Qid_.Type_ 1, leB x.Qid_.Vers_ 4, leB x.Qid_.Path_ 8, leB x.Mode_ 4, leB x.Atime_ 8, leB x.Mtime_ 8, leB x.Length_ 8]
 have step : ∀ (i : Nat) (m : stat_number) (b acc : Str), i < 9 → (ck_ x)[i]? = some m → jQ_ m = some b → acc.length ≤ 1000 → b.length ≤ 8 → fg_ (ck_ x) (acc, (i : Int), ck_ x) = some (.next (acc ++ b, ((i + 1 : Nat) : Int), ck_ x)) := fun i m b acc hi hm hp ha hb => by
  unfold fg_
  have h1 : decide ((i : Int) < ((ck_ x).length : Int)) = true := by rw [hl]; simp; omega
  simp only [h1, cond_true]
  rw [do_, hm]
  simp only [Option.bind_some]
  rw [hp]
  simp only [Option.bind_some]
  rw [cY_ (by omega)]
  simp only [Option.bind_some]
  rw [an_ (n := (i : Int) + 1) ⟨by omega, by omega⟩]
  rfl
 have h := fM_ (body := fg_ (ck_ x)) (fun i => ((bs.take i).flatten, (i : Int), ck_ x)) 9 (by show (9 : Nat) < 18446744073709551616; omega) (b := hz_ x) (fun i hi => ?_) ?_
 ·exact h
 ·have hcases : i = 0 ∨ i = 1 ∨ i = 2 ∨ i = 3 ∨ i = 4 ∨ i = 5 ∨ i = 6 ∨ i = 7 ∨ i = 8 := by omega
  have hlen : ((bs.take i).flatten).length ≤ 1000 := by
   rcases hcases with rfl | rfl | rfl | rfl | rfl | rfl | rfl | rfl | rfl <;> simp [bs, az_]
  rcases hcases with rfl | rfl | rfl | rfl | rfl | rfl | rfl | rfl | rfl
  ·exact (step 0 _ _ _ (by omega) rfl s0 hlen (by rw [az_]; omega)).trans (by simp [bs])
  ·exact (step 1 _ _ _ (by omega) rfl s1 hlen (by rw [az_]; omega)).trans (by simp [bs])
  ·exact (step 2 _ _ _ (by omega) rfl s2 hlen (by rw [az_]; omega)).trans (by simp [bs])
  ·exact (step 3 _ _ _ (by omega) rfl s3 hlen (by rw [az_]; omega)).trans (by simp [bs])
  ·exact (step 4 _ _ _ (by omega) rfl s4 hlen (by rw [az_]; omega)).trans (by simp [bs])
  ·exact (step 5 _ _ _ (by omega) rfl s5 hlen (by rw [az_]; omega)).trans (by simp [bs])
  ·exact (step 6 _ _ _ (by omega) rfl s6 hlen (by rw [az_]; omega)).trans (by simp [bs])
  ·exact (step 7 _ _ _ (by omega) rfl s7 hlen (by rw [az_]; omega)).trans (by simp [bs])
  ·exact (step 8 _ _ _ (by omega) rfl s8 hlen (by rw [az_]; omega)).trans (by simp [bs])
 ·unfold fg_
  have h1 : decide (((9 : Nat) : Int) < ((ck_ x).length : Int)) = false := by rw [hl]; simp
  simp only [h1, cond_false]
  simp [bs, hz_]
theorem ql_ (x : api_Dir) (hx : x.Name_.length ≤ 1000 ∧ x.Uid_.length ≤ 1000 ∧ x.Gid_.length ≤ 1000 ∧ x.Muid_.length ≤ 1000) : am_ (fh_ x) BIG (hz_ x, 0, [x.Name_, x.Uid_, x.Gid_, x.Muid_]) = some (.fall (bT_ x)) := by
 let ts : List Str := [x.Name_, x.Uid_, x.Gid_, x.Muid_]
 have hl : ts.length = 4 := rfl
 have step : ∀ (i : Nat) (t acc : Str), i < 4 → ts[i]? = some t → t.length ≤ 1000 → acc.length ≤ 10000 → fh_ x (acc, (i : Int), [x.Name_, x.Uid_, x.Gid_, x.Muid_]) = some (.next (acc ++ dl_ t, ((i + 1 : Nat) : Int), [x.Name_, x.Uid_, x.Gid_, x.Muid_])) := fun i t acc hi ht hlt ha => by
  unfold fh_
  have h1 : decide ((i : Int) < ([x.Name_, x.Uid_, x.Gid_, x.Muid_].length : Int)) = true := by simp; omega
  simp only [h1, cond_true]
  rw [do_, show [x.Name_, x.Uid_, x.Gid_, x.Muid_][i]? = some t from ht]
  simp only [Option.bind_some]
  rw [text_put t (by omega)]
  simp only [Option.bind_some, bne_self_eq_false, cond_false]
  rw [cY_ (by rw [dg_]; omega)]
  simp only [Option.bind_some]
  rw [an_ (n := (i : Int) + 1) ⟨by omega, by omega⟩]
  rfl
 have h := fM_ (body := fh_ x) (fun i => (hz_ x ++ ((ts.take i).map dl_).flatten, (i : Int), [x.Name_, x.Uid_, x.Gid_, x.Muid_])) 4 (by show (4 : Nat) < 18446744073709551616; omega) (b := .fall (bT_ x)) (fun i hi => ?_) ?_
 ·simpa using h
 ·have hcases : i = 0 ∨ i = 1 ∨ i = 2 ∨ i = 3 := by omega
  have hlen : (hz_ x ++ ((ts.take i).map dl_).flatten).length ≤ 10000 := by
   rcases hcases with rfl | rfl | rfl | rfl <;> simp [ts, numsB_len, dg_] <;> omega
  rcases hcases with rfl | rfl | rfl | rfl
  ·exact (step 0 _ _ (by omega) rfl hx.1 hlen).trans (by simp [ts])
  ·exact (step 1 _ _ (by omega) rfl hx.2.1 hlen).trans (by simp [ts])
  ·exact (step 2 _ _ (by omega) rfl hx.2.2.1 hlen).trans (by simp [ts])
  ·exact (step 3 _ _ (by omega) rfl hx.2.2.2 hlen).trans (by simp [ts])
 ·unfold fh_
  have h1 : decide (((4 : Nat) : Int) < ([x.Name_, x.Uid_, x.Gid_, x.Muid_].length : Int)) = false := by simp
  simp only [h1, cond_false]
  simp [ts, bT_]
def putR (x : api_Dir) : Str × Int := if bd_ x = 0 then (bL_ x, 0) else ([], bd_ x)
theorem put_eq (x : api_Dir) (h : x.ok) (hn : x.Name_.length ≤ 9223372036854775807) : lB_ x = some (putR x) := by
 unfold lB_ putR
 rw [aJ_ x h hn]
 simp only [Option.bind_some]
 by_cases hc : bd_ x = 0
 ·obtain ⟨hN, hT⟩ := ej_ x hc
  have htl := hb_ x hT
  have hnl := pb_ x h
  rw [hN] at hnl
  simp only [Bool.and_eq_true] at hnl
  have c : (bd_ x != 0) = false := by simp [hc]
  rw [c, if_pos hc, pa_]
  simp only [cond_false, Option.bind_some]
  rw [rx_ x hnl.1.1]
  simp only [Option.bind_some]
  rw [ql_ x (by omega)]
  simp only [Option.bind_some]
  have hbl := mA_ x
  have h2 := jS_ ((bT_ x).length : Int) 2 (by omega) (by omega) (by omega) (fun _ => by show ((bT_ x).length : Int) < 2 ^ 16; omega)
  rw [show ((2 : Nat) : Int) = 2 from rfl] at h2
  rw [h2]
  simp only [Option.bind_some]
  rw [cY_ (by rw [az_]; omega)]
  rfl
 ·have c : (bd_ x != 0) = true := by simp [hc]
  rw [c, if_neg hc]
  rfl
def fb_ (s : Str) : Bool := s.all (· == 255)
def numF (s : Str) : Int := if fb_ s then -1 else if leV s > 9223372036854775807 then 9223372036854775807 else (leV s : Int)
def dN_ (s : Str) : Int := if fb_ s then -1 else if leV s > 9223372036854775807 then -2 else (leV s : Int)
theorem count_255 (s : Str) : ((s.count 255 : Nat) : Int) = (s.length : Int) ↔ fb_ s = true := by
 unfold fb_
 rw [List.all_eq_true]
 simp only [beq_iff_eq]
 rw [show (((s.count 255 : Nat) : Int) = (s.length : Int)) ↔ s.count 255 = s.length by omega, List.count_eq_length]
 constructor
 ·intro h x hx; exact (h x hx).symm
 ·intro h x hx; exact (h x hx).symm
theorem bK_ (s : Str) (at_ w : Nat) (h1 : 1 ≤ w) (h8 : w ≤ 8) (h : at_ + w ≤ s.length) (hs : s.length ≤ 9223372036854775807) :
  aC_ ⟨s, (at_ : Int), true⟩ (w : Int) = some (dN_ (win s at_ w), ⟨s, ((at_ + w : Nat) : Int), true⟩) := by
 have ea : w64 ((at_ : Int) + (w : Int)) = ((at_ + w : Nat) : Int) := by rw [an_ ⟨by omega, by omega⟩]; omega
 have hwl := bp_ h
 unfold aC_
 refine ab_ ?_ ?_
 ·show (!true || decide (w64 ((s.length : Int) - (at_ : Int)) < (w : Int))) = false
  rw [an_ (n := (s.length : Int) - (at_ : Int)) ⟨by omega, by omega⟩]
  simp; omega
 refine aa_ (eC_ s at_ w h hs) ?_
 refine aa_ (a := (((win s at_ w).count 255 : Nat) : Int)) rfl ?_
 unfold dN_
 have hc := count_255 (win s at_ w)
 rw [hwl] at hc
 by_cases h255 : fb_ (win s at_ w) = true
 ·refine ac_ (by simpa using hc.2 h255) ?_
  rw [if_pos h255, ← ea]
 ·refine ab_ (by rw [beq_eq_false_iff_ne]; exact fun hh => h255 (hc.1 hh)) ?_
  rw [if_neg h255]
  have hg := gq_ (win s at_ w) 0 w h1 h8 (by omega) (by omega)
  rw [hwl, if_neg (by omega)] at hg
  have hww : win (win s at_ w) 0 w = win s at_ w := by have := win_whole (win s at_ w); rwa [hwl] at this
  rw [hww] at hg
  refine aa_ hg ?_
  by_cases hv : leV (win s at_ w) > 9223372036854775807
  ·rw [if_pos hv, if_pos hv]
   refine ac_ rfl ?_
   rw [← ea]
  ·rw [if_neg hv, if_neg hv]
   refine ab_ rfl ?_
   rw [← ea]
theorem ay_ {σ β : Type} {body : σ → Option (Step σ β)} {n : Nat} {s s' : σ} {r : Option β} (h : body s = some (.next s')) (hr : am_ body n s' = r) : am_ body (n + 1) s = r := by
 simp only [am_, h]; exact hr
theorem ap_ {σ β : Type} {body : σ → Option (Step σ β)} {n : Nat} {s : σ} {b : β} (h : body s = some (.done b)) : am_ body (n + 1) s = some b := by
 simp only [am_, h]
theorem eD_ (s : Str) (a : Nat) (h : a ≤ s.length) (hs : s.length ≤ 1000000) :
  aW_ ⟨s, (a : Int), true⟩ = some (match aX_ s a with | none => ([], ⟨s, (a : Int), false⟩) | some (t, p) => (t, ⟨s, (p : Int), true⟩)) := by
 unfold aW_
 refine ab_ rfl ?_
 refine aa_ (lK_ s a h hs) ?_
 cases aX_ s a with
 | none => exact ac_ rfl rfl
 | some x => exact ab_ rfl rfl
theorem c5_ (s : Str) (a : Int) : aW_ ⟨s, a, false⟩ = some ([], ⟨s, a, false⟩) := by
 unfold aW_
 exact ac_ rfl rfl
theorem n6_ (s : Str) (a w : Int) : aC_ ⟨s, a, false⟩ w = some (0, ⟨s, a, false⟩) := by
 unfold aC_
 exact ac_ rfl rfl
theorem l2_ (s : Str) (a w : Nat) (h : a ≤ s.length) (hw : s.length < a + w) (hs : s.length ≤ 1000000) : aC_ ⟨s, (a : Int), true⟩ (w : Int) = some (0, ⟨s, (a : Int), false⟩) := by
 unfold aC_
 refine ac_ ?_ rfl
 show (!true || decide (w64 ((s.length : Int) - (a : Int)) < (w : Int))) = true
 rw [an_ ⟨by omega, by omega⟩]
 simp; omega
theorem bO_ (s : Str) (a w : Nat) (ok : Bool) (h1 : 1 ≤ w) (h8 : w ≤ 8) (h : a ≤ s.length) (hs : s.length ≤ 1000000) :
  ∃ (v : Int) (a' : Nat) (ok' : Bool), aC_ ⟨s, (a : Int), ok⟩ (w : Int) = some (v, ⟨s, (a' : Int), ok'⟩) ∧ a' ≤ s.length ∧ (ok' = true → ok = true ∧ a' = a + w) := by
 cases ok with
 | false => exact ⟨0, a, false, n6_ s a w, h, fun hh => by cases hh⟩
 | true =>
  by_cases hw : s.length < a + w
  ·exact ⟨0, a, false, l2_ s a w h hw hs, h, fun hh => by cases hh⟩
  ·exact ⟨_, a + w, true, bK_ s a w h1 h8 (by omega) (by omega), by omega, fun _ => ⟨rfl, rfl⟩⟩
theorem fy_ (s : Str) (a : Nat) (ok : Bool) (h : a ≤ s.length) (hs : s.length ≤ 1000000) :
  ∃ (t : Str) (a' : Nat) (ok' : Bool), aW_ ⟨s, (a : Int), ok⟩ = some (t, ⟨s, (a' : Int), ok'⟩) ∧ a' ≤ s.length ∧ (ok' = true → ok = true) := by
 cases ok with
 | false => exact ⟨[], a, false, c5_ s a, h, fun hh => by cases hh⟩
 | true =>
  have ht := eD_ s a h hs
  cases hk : aX_ s a with
  | none => rw [hk] at ht; exact ⟨[], a, false, ht, h, fun hh => by cases hh⟩
  | some x => rw [hk] at ht; exact ⟨x.1, x.2, true, ht, (cv_ hk).1, fun _ => rfl⟩
theorem read_short (s : Str) (hs : s.length < 47) : ∃ d at_, b6_ ⟨s, 0, true⟩ = some (d, ⟨s, at_, false⟩) := by
 have hl : s.length ≤ 1000000 := by omega
 obtain ⟨v1, a1, k1, e1, b1, o1⟩ := bO_ s 0 2 true (by omega) (by omega) (by omega) hl
 obtain ⟨v2, a2, k2, e2, b2, o2⟩ := bO_ s a1 4 k1 (by omega) (by omega) b1 hl
 obtain ⟨v3, a3, k3, e3, b3, o3⟩ := bO_ s a2 1 k2 (by omega) (by omega) b2 hl
 obtain ⟨v4, a4, k4, e4, b4, o4⟩ := bO_ s a3 4 k3 (by omega) (by omega) b3 hl
 obtain ⟨v5, a5, k5, e5, b5, o5⟩ := bO_ s a4 8 k4 (by omega) (by omega) b4 hl
 obtain ⟨v6, a6, k6, e6, b6, o6⟩ := bO_ s a5 4 k5 (by omega) (by omega) b5 hl
 obtain ⟨v7, a7, k7, e7, b7, o7⟩ := bO_ s a6 8 k6 (by omega) (by omega) b6 hl
 obtain ⟨v8, a8, k8, e8, b8, o8⟩ := bO_ s a7 8 k7 (by omega) (by omega) b7 hl
 obtain ⟨v9, a9, k9, e9, b9, o9⟩ := bO_ s a8 8 k8 (by omega) (by omega) b8 hl
 obtain ⟨t1, c1, q1, f1, d1, p1⟩ := fy_ s a9 k9 b9 hl
 obtain ⟨t2, c2, q2, f2, d2, p2⟩ := fy_ s c1 q1 d1 hl
 obtain ⟨t3, c3, q3, f3, d3, p3⟩ := fy_ s c2 q2 d2 hl
 obtain ⟨t4, c4, q4, f4, d4, p4⟩ := fy_ s c3 q3 d3 hl
 have hq : q4 = false := by
  cases hq : q4 with
  | false => rfl
  | true =>
   have g9 := p1 (p2 (p3 (p4 hq)))
   obtain ⟨g8, r9⟩ := o9 g9
   obtain ⟨g7, r8⟩ := o8 g8
   obtain ⟨g6, r7⟩ := o7 g7
   obtain ⟨g5, r6⟩ := o6 g6
   obtain ⟨g4, r5⟩ := o5 g5
   obtain ⟨g3, r4⟩ := o4 g4
   obtain ⟨g2, r3⟩ := o3 g3
   obtain ⟨g1, r2⟩ := o2 g2
   obtain ⟨_, r1⟩ := o1 g1
   omega
 subst hq
 refine ⟨⟨v1, v2, ⟨v3, v4, v5⟩, v6, v7, v8, v9, t1, t2, t3, t4⟩, (c4 : Int), ?_⟩
 unfold b6_
 refine aa_ e1 ?_
 refine aa_ e2 ?_
 refine aa_ e3 ?_
 refine aa_ e4 ?_
 refine aa_ e5 ?_
 refine aa_ e6 ?_
 refine aa_ e7 ?_
 refine aa_ e8 ?_
 refine aa_ e9 ?_
 refine aa_ f1 ?_
 refine aa_ f2 ?_
 refine aa_ f3 ?_
 refine aa_ f4 ?_
 rfl
def ga_ (s : Str) (a : Nat) : Option (Str × Str × Str × Str × Nat) :=
 match aX_ s a with
 | none => none
 | some (t1, p1) => match aX_ s p1 with
  | none => none
  | some (t2, p2) => match aX_ s p2 with
   | none => none
   | some (t3, p3) => match aX_ s p3 with
    | none => none
    | some (t4, p4) => some (t1, t2, t3, t4, p4)
def dirR (s t1 t2 t3 t4 : Str) : api_Dir := ⟨dN_ (win s 0 2), dN_ (win s 2 4), ⟨dN_ (win s 6 1), dN_ (win s 7 4), dN_ (win s 11 8)⟩, dN_ (win s 19 4), dN_ (win s 23 8), dN_ (win s 31 8), dN_ (win s 39 8), t1, t2, t3, t4⟩
theorem read_long (s : Str) (hs : 47 ≤ s.length) (hl : s.length ≤ 1000000) : match ga_ s 47 with
  | some (t1, t2, t3, t4, p) => b6_ ⟨s, 0, true⟩ = some (dirR s t1 t2 t3 t4, ⟨s, (p : Int), true⟩)
  | none => ∃ d at_, b6_ ⟨s, 0, true⟩ = some (d, ⟨s, at_, false⟩) := by
 have e1 := bK_ s 0 2 (by omega) (by omega) (by omega) (by omega)
 have e2 := bK_ s 2 4 (by omega) (by omega) (by omega) (by omega)
 have e3 := bK_ s 6 1 (by omega) (by omega) (by omega) (by omega)
 have e4 := bK_ s 7 4 (by omega) (by omega) (by omega) (by omega)
 have e5 := bK_ s 11 8 (by omega) (by omega) (by omega) (by omega)
 have e6 := bK_ s 19 4 (by omega) (by omega) (by omega) (by omega)
 have e7 := bK_ s 23 8 (by omega) (by omega) (by omega) (by omega)
 have e8 := bK_ s 31 8 (by omega) (by omega) (by omega) (by omega)
 have e9 := bK_ s 39 8 (by omega) (by omega) (by omega) (by omega)
 have key : ∀ (t1 t2 t3 t4 : Str) (r1 r2 r3 r4 : stat_reader), aW_ ⟨s, ((47 : Nat) : Int), true⟩ = some (t1, r1) → aW_ r1 = some (t2, r2) → aW_ r2 = some (t3, r3) → aW_ r3 = some (t4, r4) →
   b6_ ⟨s, 0, true⟩ = some (dirR s t1 t2 t3 t4, r4) := by
  intro t1 t2 t3 t4 r1 r2 r3 r4 f1 f2 f3 f4
  unfold b6_
  refine aa_ e1 ?_
  refine aa_ e2 ?_
  refine aa_ e3 ?_
  refine aa_ e4 ?_
  refine aa_ e5 ?_
  refine aa_ e6 ?_
  refine aa_ e7 ?_
  refine aa_ e8 ?_
  refine aa_ e9 ?_
  refine aa_ f1 ?_
  refine aa_ f2 ?_
  refine aa_ f3 ?_
  refine aa_ f4 ?_
  rfl
 have ht1 := eD_ s 47 (by omega) hl
 unfold ga_
 cases h1 : aX_ s 47 with
 | none =>
  rw [h1] at ht1
  exact ⟨_, _, key _ _ _ _ _ _ _ _ ht1 (c5_ _ _) (c5_ _ _) (c5_ _ _)⟩
 | some x1 =>
  obtain ⟨t1, p1⟩ := x1
  rw [h1] at ht1
  have l1 := (cv_ h1).1
  have ht2 := eD_ s p1 l1 hl
  simp only
  cases h2 : aX_ s p1 with
  | none =>
   rw [h2] at ht2
   exact ⟨_, _, key _ _ _ _ _ _ _ _ ht1 ht2 (c5_ _ _) (c5_ _ _)⟩
  | some x2 =>
   obtain ⟨t2, p2⟩ := x2
   rw [h2] at ht2
   have l2 := (cv_ h2).1
   have ht3 := eD_ s p2 l2 hl
   simp only
   cases h3 : aX_ s p2 with
   | none =>
    rw [h3] at ht3
    exact ⟨_, _, key _ _ _ _ _ _ _ _ ht1 ht2 ht3 (c5_ _ _)⟩
   | some x3 =>
    obtain ⟨t3, p3⟩ := x3
    rw [h3] at ht3
    have l3 := (cv_ h3).1
    have ht4 := eD_ s p3 l3 hl
    simp only
    cases h4 : aX_ s p3 with
    | none =>
     rw [h4] at ht4
     exact ⟨_, _, key _ _ _ _ _ _ _ _ ht1 ht2 ht3 ht4⟩
    | some x4 =>
     obtain ⟨t4, p4⟩ := x4
     rw [h4] at ht4
     exact key _ _ _ _ _ _ _ _ ht1 ht2 ht3 ht4
theorem mB_ (s : Str) (k a w : Nat) : win (s.drop k) a w = win s (k + a) w := by simp [win, List.drop_drop]
theorem gr_ (s : Str) (k a : Nat) (hk : k ≤ s.length) : aX_ (s.drop k) a = (aX_ s (k + a)).map fun x => (x.1, x.2 - k) := by
 unfold aX_
 rw [mB_, mB_, List.length_drop]
 rw [show k + (a + 2) = k + a + 2 by omega]
 by_cases h1 : s.length < k + a + 2
 ·rw [if_pos (by omega), if_pos h1]; rfl
 ·rw [if_neg (by omega), if_neg h1]
  by_cases h2 : s.length < k + a + 2 + leV (win s (k + a) 2)
  ·rw [if_pos (by omega), if_pos h2]; rfl
  ·rw [if_neg (by omega), if_neg h2]
   simp only [Option.map_some, Option.some.injEq, Prod.mk.injEq, true_and]
   omega
theorem take4_shift (s : Str) (k : Nat) (hk : k ≤ s.length) : ga_ (s.drop k) 0 = (ga_ s k).map fun x => (x.1, x.2.1, x.2.2.1, x.2.2.2.1, x.2.2.2.2 - k) := by
 unfold ga_
 rw [gr_ s k 0 hk, Nat.add_zero]
 cases h1 : aX_ s k with
 | none => rfl
 | some x1 =>
  obtain ⟨t1, p1⟩ := x1
  have g1 := cv_ h1
  simp only [Option.map_some]
  rw [gr_ s k (p1 - k) hk, show k + (p1 - k) = p1 by omega]
  cases h2 : aX_ s p1 with
  | none => rfl
  | some x2 =>
   obtain ⟨t2, p2⟩ := x2
   have g2 := cv_ h2
   simp only [Option.map_some]
   rw [gr_ s k (p2 - k) hk, show k + (p2 - k) = p2 by omega]
   cases h3 : aX_ s p2 with
   | none => rfl
   | some x3 =>
    obtain ⟨t3, p3⟩ := x3
    have g3 := cv_ h3
    simp only [Option.map_some]
    rw [gr_ s k (p3 - k) hk, show k + (p3 - k) = p3 by omega]
    cases h4 : aX_ s p3 with
    | none => rfl
    | some x4 => rfl
def zeroDir : api_Dir := api_Dir.mk 0 0 (api_Qid.mk 0 0 0) 0 0 0 0 [] [] [] []
theorem iL_ (s : Str) (h : s.length ≤ 4) : dN_ s = numF s := by
 have hl := fN_ s
 have hp : 2 ^ (8 * s.length) ≤ 2 ^ 32 := Nat.pow_le_pow_right (by omega) (by omega)
 unfold dN_ numF
 split
 ·rfl
 ·rw [if_neg (by omega), if_neg (by omega)]
theorem nh_ (s : Str) : dN_ s = numF s ∨ (dN_ s = -2 ∧ numF s = 9223372036854775807) := by
 unfold dN_ numF
 split
 ·exact .inl rfl
 ·split
  ·exact .inr ⟨rfl, rfl⟩
  ·exact .inl rfl
theorem gb_ (s : Str) : InK .i64 (dN_ s) := by
 show -9223372036854775808 ≤ dN_ s ∧ dN_ s ≤ 9223372036854775807
 unfold dN_
 split
 ·omega
 ·split <;> omega
theorem take4_le {s t1 t2 t3 t4 : Str} {a p : Nat} (h : ga_ s a = some (t1, t2, t3, t4, p)) : p ≤ s.length ∧ t1.length ≤ s.length ∧ t2.length ≤ s.length ∧ t3.length ≤ s.length ∧ t4.length ≤ s.length ∧ a + 8 ≤ p := by
 unfold ga_ at h
 cases h1 : aX_ s a with
 | none => rw [h1] at h; cases h
 | some x1 =>
  obtain ⟨u1, p1⟩ := x1
  rw [h1] at h
  simp only at h
  cases h2 : aX_ s p1 with
  | none => rw [h2] at h; cases h
  | some x2 =>
   obtain ⟨u2, p2⟩ := x2
   rw [h2] at h
   simp only at h
   cases h3 : aX_ s p2 with
   | none => rw [h3] at h; cases h
   | some x3 =>
    obtain ⟨u3, p3⟩ := x3
    rw [h3] at h
    simp only at h
    cases h4 : aX_ s p3 with
    | none => rw [h4] at h; cases h
    | some x4 =>
     obtain ⟨u4, p4⟩ := x4
     rw [h4] at h
     simp only [Option.some.injEq, Prod.mk.injEq] at h
     obtain ⟨rfl, rfl, rfl, rfl, rfl⟩ := h
     have g1 := cv_ h1
     have g2 := cv_ h2
     have g3 := cv_ h3
     have g4 := cv_ h4
     omega
theorem dirR_ok (s t1 t2 t3 t4 : Str) (h1 : t1.length ≤ 1000000) (h2 : t2.length ≤ 1000000) (h3 : t3.length ≤ 1000000) (h4 : t4.length ≤ 1000000) : (dirR s t1 t2 t3 t4).ok :=
 ⟨gb_ _, gb_ _, ⟨gb_ _, gb_ _, gb_ _⟩, gb_ _, gb_ _, gb_ _, gb_ _, by show t1.length ≤ _; omega, by show t2.length ≤ _; omega, by show t3.length ≤ _; omega, by show t4.length ≤ _; omega⟩
end Go.Proofs.YtolgkhjkdadhiaaGreat
namespace Go.Proofs.YtolgkhjkdadhiaaGreat
open Go.Rt Go.RowKit
def eZ_ (s t1 t2 t3 t4 : Str) : api_Dir := ⟨numF (win s 0 2), numF (win s 2 4), ⟨numF (win s 6 1), numF (win s 7 4), numF (win s 11 8)⟩, numF (win s 19 4), numF (win s 23 8), numF (win s 31 8), numF (win s 39 8), t1, t2, t3, t4⟩
theorem dir_check (s t1 t2 t3 t4 : Str) (h : 47 ≤ s.length) : bd_ (dirR s t1 t2 t3 t4) = bd_ (eZ_ s t1 t2 t3 t4) ∧ (bd_ (eZ_ s t1 t2 t3 t4) = 0 → dirR s t1 t2 t3 t4 = eZ_ s t1 t2 t3 t4) := by
 have q1 := iL_ (win s 0 2) (by rw [bp_ (by omega)]; omega)
 have q2 := iL_ (win s 2 4) (by rw [bp_ (by omega)]; omega)
 have q3 := iL_ (win s 6 1) (by rw [bp_ (by omega)]; omega)
 have q4 := iL_ (win s 7 4) (by rw [bp_ (by omega)]; omega)
 have q6 := iL_ (win s 19 4) (by rw [bp_ (by omega)]; omega)
 have bad : ∀ x : api_Dir, cm_ x = false → bd_ x = 5 := fun x hx => by unfold bd_; rw [hx]; rfl
 have i1 : dM_ (-2) 1099511627776 = false := rfl
 have i2 : dM_ 9223372036854775807 1099511627776 = false := rfl
 have i3 : dM_ (-2) 9007199254740991 = false := rfl
 have i4 : dM_ 9223372036854775807 9007199254740991 = false := rfl
 have fin : cm_ (dirR s t1 t2 t3 t4) = false → cm_ (eZ_ s t1 t2 t3 t4) = false → bd_ (dirR s t1 t2 t3 t4) = bd_ (eZ_ s t1 t2 t3 t4) ∧ (bd_ (eZ_ s t1 t2 t3 t4) = 0 → dirR s t1 t2 t3 t4 = eZ_ s t1 t2 t3 t4) := fun h1 h2 => by
  rw [bad _ h1, bad _ h2]
  exact ⟨rfl, fun hh => by omega⟩
 rcases nh_ (win s 11 8) with q5 | ⟨q5, q5'⟩
 ·rcases nh_ (win s 23 8) with q7 | ⟨q7, q7'⟩
  ·rcases nh_ (win s 31 8) with q8 | ⟨q8, q8'⟩
   ·rcases nh_ (win s 39 8) with q9 | ⟨q9, q9'⟩
    ·have e : dirR s t1 t2 t3 t4 = eZ_ s t1 t2 t3 t4 := by unfold dirR eZ_; rw [q1, q2, q3, q4, q5, q6, q7, q8, q9]
     rw [e]
     exact ⟨rfl, fun _ => rfl⟩
    ·exact fin (by simp [cm_, dirR, q9, i3]) (by simp [cm_, eZ_, q9', i4])
   ·exact fin (by simp [cm_, dirR, q8, i1]) (by simp [cm_, eZ_, q8', i2])
  ·exact fin (by simp [cm_, dirR, q7, i1]) (by simp [cm_, eZ_, q7', i2])
 ·exact fin (by simp [cm_, dirR, q5, i1]) (by simp [cm_, eZ_, q5', i2])
def getR (s : Str) (a : Nat) : api_Dir × Int × Int :=
 if s.length < a + 2 then (zeroDir, 0, 3) else
 if s.length < a + 2 + leV (win s a 2) then (zeroDir, 0, 3) else
 if leV (win s a 2) < 47 then (zeroDir, 0, 2) else
 match ga_ (win s (a + 2) (leV (win s a 2))) 47 with
 | none => (zeroDir, 0, 2)
 | some (t1, t2, t3, t4, p) => if p = leV (win s a 2) then
   if bd_ (eZ_ (win s (a + 2) (leV (win s a 2))) t1 t2 t3 t4) = 0 then (eZ_ (win s (a + 2) (leV (win s a 2))) t1 t2 t3 t4, ((a + 2 + leV (win s a 2) : Nat) : Int), 0) else (zeroDir, 0, bd_ (eZ_ (win s (a + 2) (leV (win s a 2))) t1 t2 t3 t4))
  else (zeroDir, 0, 2)
theorem nD_ (s : Str) (a : Nat) (h : a ≤ s.length) (hs : s.length ≤ 1000000) : lC_ s (a : Int) = some (getR s a) := by
 unfold lC_ getR
 have hg := gq_ s a 2 (by omega) (by omega) h (by omega)
 rw [show ((2 : Nat) : Int) = 2 from rfl] at hg
 by_cases h2 : s.length < a + 2
 ·rw [if_pos (by omega)] at hg
  rw [if_pos h2]
  refine aa_ hg ?_
  exact ac_ rfl rfl
 ·have hv := fo_ s a (by omega)
  rw [if_neg (by omega), if_neg (by omega)] at hg
  rw [if_neg h2]
  refine aa_ hg ?_
  refine ab_ rfl ?_
  have ew : w64 ((s.length : Int) - ((a + 2 : Nat) : Int)) = ((s.length - (a + 2) : Nat) : Int) := by rw [an_ ⟨by omega, by omega⟩]; omega
  have ex : w64 (((a + 2 : Nat) : Int) + (leV (win s a 2) : Int)) = ((a + 2 + leV (win s a 2) : Nat) : Int) := by rw [an_ ⟨by omega, by omega⟩]; omega
  by_cases h3 : s.length < a + 2 + leV (win s a 2)
  ·rw [if_pos h3]
   refine ac_ ?_ rfl
   show decide (w64 ((s.length : Int) - ((a + 2 : Nat) : Int)) < (leV (win s a 2) : Int)) = true
   rw [ew]; simp only [decide_eq_true_eq]; omega
  ·rw [if_neg h3]
   refine ab_ ?_ ?_
   ·show decide (w64 ((s.length : Int) - ((a + 2 : Nat) : Int)) < (leV (win s a 2) : Int)) = false
    rw [ew]; simp only [decide_eq_false_iff_not]; omega
   refine aa_ (eC_ s (a + 2) (leV (win s a 2)) (by omega) (by omega)) ?_
   have hwl : (win s (a + 2) (leV (win s a 2))).length = leV (win s a 2) := bp_ (by omega)
   generalize leV (win s a 2) = n at hwl hv h3 ex ⊢
   generalize win s (a + 2) n = y at hwl ⊢
   by_cases h47 : n < 47
   ·rw [if_pos h47]
    obtain ⟨d, at_, hr⟩ := read_short y (by omega)
    refine aa_ hr ?_
    exact ac_ rfl rfl
   ·rw [if_neg h47]
    have hr := read_long y (by omega) (by omega)
    cases h4 : ga_ y 47 with
    | none =>
     rw [h4] at hr
     obtain ⟨d, at_, hr⟩ := hr
     refine aa_ hr ?_
     exact ac_ rfl rfl
    | some x =>
     obtain ⟨t1, t2, t3, t4, p⟩ := x
     rw [h4] at hr
     refine aa_ hr ?_
     simp only
     by_cases hp : p = n
     ·rw [if_pos hp]
      refine ab_ (by simp [hp]) ?_
      have hle := take4_le h4
      have hB : BIG = 18446744073709551616 := rfl
      refine aa_ (aJ_ _ (dirR_ok y t1 t2 t3 t4 (by omega) (by omega) (by omega) (by omega)) (by show t1.length ≤ _; omega)) ?_
      have hd := dir_check y t1 t2 t3 t4 (by omega)
      rw [hd.1]
      by_cases hc : bd_ (eZ_ y t1 t2 t3 t4) = 0
      ·rw [if_pos hc]
       refine ab_ (by simp [hc]) ?_
       show some (dirR y t1 t2 t3 t4, w64 (((a + 2 : Nat) : Int) + (n : Int)), (0 : Int)) = _
       rw [hd.2 hc, ex]
      ·rw [if_neg hc]
       exact ac_ (by simp [hc]) rfl
     ·rw [if_neg hp]
      refine ac_ ?_ rfl
      simp only [Bool.or_eq_true, bne_iff_ne]
      right
      intro hh
      apply hp
      omega
theorem all255_val : ∀ (s : Str), fb_ s = true → leV s = 2 ^ (8 * s.length) - 1
 | [], _ => rfl
 | b :: r, h => by
  unfold fb_ at h
  simp only [List.all_cons, Bool.and_eq_true, beq_iff_eq] at h
  have ih := all255_val r h.2
  obtain ⟨h1, _⟩ := h
  subst h1
  simp only [leV, ih, List.length_cons]
  rw [show 8 * (r.length + 1) = 8 * r.length + 8 by omega, Nat.pow_add]
  have := Nat.two_pow_pos (8 * r.length)
  rw [show (255 : UInt8).toNat = 255 from rfl]
  omega
theorem mC_ (s : Str) (a n m : Nat) : win s a (n + m) = win s a n ++ win s (a + n) m := by
 unfold win
 rw [← List.drop_drop, List.take_add]
theorem bR_ (s : Str) (a n m b k : Nat) (h : b = a + n) (hk : k = n + m) : win s a n ++ win s b m = win s a k := by
 subst h; subst hk; exact (mC_ s a n m).symm
theorem hA_ {s t : Str} {a p : Nat} (h : aX_ s a = some (t, p)) : dl_ t = win s a (p - a) ∧ p = a + 2 + t.length ∧ t.length < 65536 ∧ p ≤ s.length := by
 have h0 := h
 unfold aX_ at h
 split at h
 ·cases h
 ·split at h
  ·cases h
  ·rename_i h1 h2
   simp only [Option.some.injEq, Prod.mk.injEq] at h
   obtain ⟨rfl, rfl⟩ := h
   have hl : (win s (a + 2) (leV (win s a 2))).length = leV (win s a 2) := bp_ (by omega)
   have hv := fo_ s a (by omega)
   refine ⟨?_, by omega, by omega, by omega⟩
   rw [show a + 2 + leV (win s a 2) - a = 2 + leV (win s a 2) by omega, mC_]
   unfold dl_
   rw [hl]
   have := ng_ (win s a 2)
   rw [bp_ (by omega)] at this
   rw [this]
theorem e0_ (y : Str) (w : Nat) (hw : y.length = w) (h : dN_ y ≠ -2) : leB (dN_ y) w = y := by
 unfold dN_ at *
 split
 ·rename_i h255
  subst hw
  have key : ∀ (y : Str), fb_ y = true → y = List.replicate y.length 255 := by
   intro y
   induction y with
   | nil => intro _; rfl
   | cons b y ih =>
    intro h
    unfold fb_ at h
    simp only [List.all_cons, Bool.and_eq_true, beq_iff_eq] at h
    obtain ⟨rfl, h2⟩ := h
    rw [List.length_cons, List.replicate_succ, ← ih h2]
  rw [key y h255, List.length_replicate]
  unfold leB leL cf_
  apply List.ext_getElem
  ·simp
  ·intro i h1 h2
   simp only [List.getElem_map, List.getElem_range, List.getElem_replicate]
   rw [o9_]
   rfl
 ·rename_i h255
  rw [if_neg h255] at h
  split at h
  ·exact absurd rfl h
  ·rename_i hle
   rw [if_neg hle]
   subst hw
   exact ng_ y
theorem putB_getR (y : Str) (d : api_Dir) (h : getR y 0 = (d, (y.length : Int), 0)) : bd_ d = 0 ∧ bL_ d = y := by
 unfold getR at h
 split at h
 ·simp at h
 ·split at h
  ·simp at h
  ·split at h
   ·simp at h
   ·rename_i h1 h2 h3
    split at h
    ·simp at h
    ·rename_i t1 t2 t3 t4 p ht
     split at h
     ·rename_i hp
      split at h
      ·rename_i hc
       simp only [Prod.mk.injEq, and_true] at h
       obtain ⟨rfl, hend⟩ := h
       refine ⟨hc, ?_⟩
       have hend' : 2 + leV (win y 0 2) = y.length := by omega
       have hv : (win y (0 + 2) (leV (win y 0 2))).length = leV (win y 0 2) := bp_ (by omega)
       generalize hz : win y (0 + 2) (leV (win y 0 2)) = z at *
       have hdR := (dir_check z t1 t2 t3 t4 (by omega)).2 hc
       rw [← hdR]
       have hbody : bT_ (dirR z t1 t2 t3 t4) = z := by
        unfold ga_ at ht
        have hN := (ej_ _ hc).1
        rw [← hdR] at hN
        have hne : ∀ (x m : Int), dM_ x m = true → x ≠ -2 := fun x m hx he => by subst he; simp [dM_] at hx
        have hneB : ∀ (x m : Int), cA_ x m = true → x ≠ -2 := fun x m hx he => by subst he; simp [cA_] at hx
        simp only [cm_, Bool.and_eq_true] at hN
        obtain ⟨⟨⟨⟨⟨⟨⟨⟨n0, n1⟩, n2⟩, n3⟩, n4⟩, n5⟩, n6⟩, n7⟩, n8⟩ := hN
        have w : ∀ a b, a + b ≤ z.length → (win z a b).length = b := fun a b h => bp_ h
        have e0 := e0_ (win z 0 2) 2 (w 0 2 (by omega)) (hne _ _ n0)
        have e1 := e0_ (win z 2 4) 4 (w 2 4 (by omega)) (hne _ _ n1)
        have e2 := e0_ (win z 6 1) 1 (w 6 1 (by omega)) (hneB _ _ n2)
        have e3 := e0_ (win z 7 4) 4 (w 7 4 (by omega)) (hne _ _ n3)
        have e4 := e0_ (win z 11 8) 8 (w 11 8 (by omega)) (hne _ _ n4)
        have e5 := e0_ (win z 19 4) 4 (w 19 4 (by omega)) (hneB _ _ n5)
        have e6 := e0_ (win z 23 8) 8 (w 23 8 (by omega)) (hne _ _ n6)
        have e7 := e0_ (win z 31 8) 8 (w 31 8 (by omega)) (hne _ _ n7)
        have e8 := e0_ (win z 39 8) 8 (w 39 8 (by omega)) (hne _ _ n8)
        unfold bT_ hz_
        simp only [dirR]
        rw [e0, e1, e2, e3, e4, e5, e6, e7, e8]
        rw [bR_ z 0 2 4 2 6 rfl rfl, bR_ z 0 6 1 6 7 rfl rfl, bR_ z 0 7 4 7 11 rfl rfl, bR_ z 0 11 8 11 19 rfl rfl, bR_ z 0 19 4 19 23 rfl rfl, bR_ z 0 23 8 23 31 rfl rfl, bR_ z 0 31 8 31 39 rfl rfl, bR_ z 0 39 8 39 47 rfl rfl]
        cases g1 : aX_ z 47 with
        | none => rw [g1] at ht; cases ht
        | some q1 =>
         obtain ⟨u1, p1⟩ := q1
         rw [g1] at ht
         simp only at ht
         cases g2 : aX_ z p1 with
         | none => rw [g2] at ht; cases ht
         | some q2 =>
          obtain ⟨u2, p2⟩ := q2
          rw [g2] at ht
          simp only at ht
          cases g3 : aX_ z p2 with
          | none => rw [g3] at ht; cases ht
          | some q3 =>
           obtain ⟨u3, p3⟩ := q3
           rw [g3] at ht
           simp only at ht
           cases g4 : aX_ z p3 with
           | none => rw [g4] at ht; cases ht
           | some q4 =>
            obtain ⟨u4, p4⟩ := q4
            rw [g4] at ht
            simp only [Option.some.injEq, Prod.mk.injEq] at ht
            obtain ⟨rfl, rfl, rfl, rfl, rfl⟩ := ht
            obtain ⟨a1, b1, c1, d1⟩ := hA_ g1
            obtain ⟨a2, b2, c2, d2⟩ := hA_ g2
            obtain ⟨a3, b3, c3, d3⟩ := hA_ g3
            obtain ⟨a4, b4, c4, d4⟩ := hA_ g4
            rw [a1, a2, a3, a4, bR_ z 0 47 (p1 - 47) 47 p1 rfl (by omega), bR_ z 0 p1 (p2 - p1) p1 p2 (by omega) (by omega), bR_ z 0 p2 (p3 - p2) p2 p3 (by omega) (by omega), bR_ z 0 p3 (p4 - p3) p3 p4 (by omega) (by omega)]
            have : p4 = z.length := by omega
            rw [this]
            simp [win]
       unfold bL_
       rw [hbody, hv]
       have := ng_ (win y 0 2)
       rw [bp_ (by omega)] at this
       rw [this, ← hz]
       have := mC_ y 0 2 (leV (win y 0 2))
       rw [← this, hend']
       simp [win]
      ·rename_i hc
       simp only [Prod.mk.injEq] at h
       exact absurd h.2.2 hc
     ·simp at h
end Go.Proofs.YtolgkhjkdadhiaaGreat
namespace Go.Proofs.YtolgkhjkdadhiaaGreat
open Go.Rt Go.RowKit
abbrev MAXI : Nat := 9223372036854775807
def bI_ (n : Int) (w : Nat) : Option Str := if bF_ n w then some (leB n w) else none
def cE_ (s : Str) : Option Str := if s.length ≤ 65535 then some (dl_ s) else none
def ek_ (q : api_Qid) : Option Str := if bF_ q.Type_ 1 && bF_ q.Vers_ 4 && bF_ q.Path_ 8 then some (leB q.Type_ 1 ++ leB q.Vers_ 4 ++ leB q.Path_ 8) else none
def cw_ {α : Type} (f : α → Option Str) : List α → Option Str
 | [] => some []
 | x :: l => match f x, cw_ f l with
  | some a, some b => some (a ++ b)
  | _, _ => none
def encL {α : Type} (f : α → Option Str) (l : List α) : Option Str := if l.length ≤ 65535 then (cw_ f l).map (leB (l.length : Int) 2 ++ ·) else none
def encD (s : Str) (w : Nat) : Option Str := if bF_ (s.length : Int) w then some (leB (s.length : Int) w ++ s) else none
def encS (d : api_Dir) : Option Str := if bd_ d = 0 then some (leB ((bL_ d).length : Int) 2 ++ bL_ d) else none
def decN (y : Str) (a w : Nat) : Option (Nat × Nat) := if y.length < a + w then none else if leV (win y a w) > MAXI then none else some (leV (win y a w), a + w)
theorem gU_ {y : Str} {a w n p : Nat} (h : decN y a w = some (n, p)) (_ : w ≤ 8) : p = a + w ∧ p ≤ y.length ∧ n ≤ MAXI ∧ bI_ (n : Int) w = some (win y a w) := by
 unfold decN at h
 split at h
 ·cases h
 ·split at h
  ·cases h
  ·rename_i h1 h2
   simp only [Option.some.injEq, Prod.mk.injEq] at h
   obtain ⟨rfl, rfl⟩ := h
   refine ⟨rfl, by omega, by omega, ?_⟩
   have hl : (win y a w).length = w := bp_ (by omega)
   have hv := fN_ (win y a w)
   rw [hl] at hv
   have hf : bF_ ((leV (win y a w) : Nat) : Int) w = true := by
    unfold bF_
    rw [Bool.and_eq_true, Bool.or_eq_true]
    refine ⟨by simp, .inr ?_⟩
    rw [decide_eq_true_eq]
    exact_mod_cast hv
   unfold bI_
   rw [if_pos hf]
   have := ng_ (win y a w)
   rw [hl] at this
   rw [this]
theorem rnum (y : Str) (a w : Nat) (h1 : 1 ≤ w) (h8 : w ≤ 8) (h : a ≤ y.length) (hs : y.length ≤ 1000000) :
  al_ ⟨y, (a : Int), true⟩ (w : Int) = some (match decN y a w with | none => (0, ⟨y, (a : Int), false⟩) | some (n, p) => ((n : Int), ⟨y, (p : Int), true⟩)) := by
 unfold al_ decN
 refine ab_ rfl ?_
 refine aa_ (gq_ y a w h1 h8 h (by omega)) ?_
 by_cases hlt : y.length < a + w
 ·rw [if_pos (by omega), if_pos hlt]
  exact ac_ rfl rfl
 ·rw [if_neg (by omega), if_neg hlt]
  by_cases hv : leV (win y a w) > 9223372036854775807
  ·rw [if_pos hv, if_pos hv]
   exact ac_ rfl rfl
  ·rw [if_neg hv, if_neg hv]
   exact ab_ rfl rfl
theorem fp_ (y : Str) (a w : Int) : al_ ⟨y, a, false⟩ w = some (0, ⟨y, a, false⟩) := by
 unfold al_
 exact ac_ rfl rfl
theorem rtext (y : Str) (a : Nat) (h : a ≤ y.length) (hs : y.length ≤ 1000000) :
  aE_ ⟨y, (a : Int), true⟩ = some (match aX_ y a with | none => ([], ⟨y, (a : Int), false⟩) | some (t, p) => (t, ⟨y, (p : Int), true⟩)) := by
 unfold aE_
 refine ab_ rfl ?_
 refine aa_ (lK_ y a h hs) ?_
 cases aX_ y a with
 | none => exact ac_ rfl rfl
 | some q => exact ab_ rfl rfl
theorem rtext_no (y : Str) (a : Int) : aE_ ⟨y, a, false⟩ = some ([], ⟨y, a, false⟩) := by
 unfold aE_
 exact ac_ rfl rfl
theorem mD_ {y t : Str} {a p : Nat} (h : aX_ y a = some (t, p)) : p ≤ y.length ∧ a ≤ p ∧ cE_ t = some (win y a (p - a)) := by
 obtain ⟨h1, h2, h3, h4⟩ := hA_ h
 refine ⟨h4, by omega, ?_⟩
 unfold cE_
 rw [if_pos (by omega), h1]
theorem rqid (y : Str) (a : Nat) (h : a ≤ y.length) (hs : y.length ≤ 1000000) : ∃ q r, bo_ ⟨y, (a : Int), true⟩ = some (q, r) ∧ r.s_ = y ∧ ((r.ok_ = true ∧ ∃ p : Nat, r.at_ = (p : Int) ∧ a ≤ p ∧ p ≤ y.length ∧ ek_ q = some (win y a (p - a))) ∨ r.ok_ = false) := by
 unfold bo_
 have e1 := rnum y a 1 (by omega) (by omega) h hs
 rw [show ((1 : Nat) : Int) = 1 from rfl] at e1
 cases d1 : decN y a 1 with
 | none =>
  rw [d1] at e1
  exact ⟨_, _, aa_ e1 (aa_ (fp_ _ _ _) (aa_ (fp_ _ _ _) rfl)), rfl, .inr rfl⟩
 | some q1 =>
  obtain ⟨n1, p1⟩ := q1
  rw [d1] at e1
  obtain ⟨a1, b1, c1, g1⟩ := gU_ d1 (by omega)
  have e2 := rnum y p1 4 (by omega) (by omega) b1 hs
  rw [show ((4 : Nat) : Int) = 4 from rfl] at e2
  cases d2 : decN y p1 4 with
  | none =>
   rw [d2] at e2
   exact ⟨_, _, aa_ e1 (aa_ e2 (aa_ (fp_ _ _ _) rfl)), rfl, .inr rfl⟩
  | some q2 =>
   obtain ⟨n2, p2⟩ := q2
   rw [d2] at e2
   obtain ⟨a2, b2, c2, g2⟩ := gU_ d2 (by omega)
   have e3 := rnum y p2 8 (by omega) (by omega) b2 hs
   rw [show ((8 : Nat) : Int) = 8 from rfl] at e3
   cases d3 : decN y p2 8 with
   | none =>
    rw [d3] at e3
    exact ⟨_, _, aa_ e1 (aa_ e2 (aa_ e3 rfl)), rfl, .inr rfl⟩
   | some q3 =>
    obtain ⟨n3, p3⟩ := q3
    rw [d3] at e3
    obtain ⟨a3, b3, c3, g3⟩ := gU_ d3 (by omega)
    refine ⟨_, _, aa_ e1 (aa_ e2 (aa_ e3 rfl)), rfl, .inl ⟨rfl, p3, rfl, by omega, b3, ?_⟩⟩
    unfold bI_ at g1 g2 g3
    split at g1
    ·split at g2
     ·split at g3
      ·rename_i f1 f2 f3
       have g1 := Option.some.inj g1
       have g2 := Option.some.inj g2
       have g3 := Option.some.inj g3
       unfold ek_
       show (if bF_ (n1 : Int) 1 && bF_ (n2 : Int) 4 && bF_ (n3 : Int) 8 then some (leB (n1 : Int) 1 ++ leB (n2 : Int) 4 ++ leB (n3 : Int) 8) else none) = _
       rw [f1, f2, f3, g1, g2, g3, bR_ y a 1 4 p1 5 a1 rfl, bR_ y a 5 8 p2 (p3 - a) (by omega) (by omega)]
       rfl
      ·cases g3
     ·cases g2
    ·cases g1
theorem rqid_no (y : Str) (a : Int) : ∃ q, bo_ ⟨y, a, false⟩ = some (q, ⟨y, a, false⟩) := by
 unfold bo_
 exact ⟨_, aa_ (fp_ _ _ _) (aa_ (fp_ _ _ _) (aa_ (fp_ _ _ _) rfl))⟩
end Go.Proofs.YtolgkhjkdadhiaaGreat
namespace Go.Proofs.YtolgkhjkdadhiaaGreat
open Go.Rt Go.RowKit
theorem n8_ {α : Type} {f : α → Option Str} : ∀ {l m : List α} {a b : Str}, cw_ f l = some a → cw_ f m = some b → cw_ f (l ++ m) = some (a ++ b)
 | [], m, a, b, h1, h2 => by
  obtain rfl := Option.some.inj h1
  exact h2
 | x :: l, m, a, b, h1, h2 => by
  simp only [cw_] at h1
  split at h1
  ·rename_i u v hu hv
   obtain rfl := Option.some.inj h1
   have := n8_ hv h2
   simp only [List.cons_append, cw_, hu, this, List.append_assoc]
  ·cases h1
theorem encs_one {α : Type} {f : α → Option Str} {x : α} {a : Str} (h : f x = some a) : cw_ f [x] = some a := by
 simp [cw_, h]
def Rd {α : Type} (y : Str) (a : Nat) (enc : α → Option Str) (x : α) (r : wire_reader) : Prop := r.s_ = y ∧ ((r.ok_ = true ∧ ∃ p : Nat, r.at_ = (p : Int) ∧ a ≤ p ∧ p ≤ y.length ∧ enc x = some (win y a (p - a))) ∨ r.ok_ = false)
theorem mE_ {r : wire_reader} {y : Str} {p : Nat} (h1 : r.s_ = y) (h2 : r.at_ = (p : Int)) (h3 : r.ok_ = true) : r = ⟨y, (p : Int), true⟩ := by
 cases r; simp_all
theorem pc_ (y : Str) (hs : y.length ≤ 1000000) (a : Nat) : ∀ (k fuel p : Nat) (acc : List Str), k < fuel → p ≤ y.length → a ≤ p → acc.length + k ≤ 65535 → cw_ cE_ acc = some (win y a (p - a)) →
  ∃ l r, am_ aI_ fuel ((k : Int), ⟨y, (p : Int), true⟩, acc) = some (l, r) ∧ r.s_ = y ∧ ((r.ok_ = true ∧ l.length = acc.length + k ∧ ∃ q : Nat, r.at_ = (q : Int) ∧ a ≤ q ∧ q ≤ y.length ∧ cw_ cE_ l = some (win y a (q - a))) ∨ r.ok_ = false)
 | 0, fuel + 1, p, acc, _, hp, ha, _, he => by
  refine ⟨acc, ⟨y, (p : Int), true⟩, ap_ ?_, rfl, .inl ⟨rfl, rfl, p, rfl, ha, hp, he⟩⟩
  unfold aI_
  exact ab_ rfl rfl
 | k + 1, fuel + 1, p, acc, hk, hp, ha, hl, he => by
  have e1 := rtext y p hp hs
  have hroom : ∀ t : Str, br_ 16 acc [t] = some (acc ++ [t]) := fun t => bc_ (by simp; omega) (by simp; omega)
  have hw : w64 (((k + 1 : Nat) : Int) - 1) = (k : Int) := by rw [an_ ⟨by omega, by omega⟩]; omega
  have hc : (decide (((k + 1 : Nat) : Int) > 0) && true) = true := by simp <;> omega
  cases d1 : aX_ y p with
  | none =>
   rw [d1] at e1
   cases fuel with
   | zero => omega
   | succ fuel =>
    refine ⟨acc ++ [[]], ⟨y, (p : Int), false⟩, ay_ (s' := ((k : Int), ⟨y, (p : Int), false⟩, acc ++ [[]])) ?_ (ap_ ?_), rfl, .inr rfl⟩
    ·unfold aI_
     refine ac_ hc (aa_ e1 (aa_ (hroom _) ?_))
     rw [← hw]
    ·unfold aI_
     exact ab_ (by simp) rfl
  | some q =>
   obtain ⟨t, p1⟩ := q
   rw [d1] at e1
   obtain ⟨h1, h2, h3⟩ := mD_ d1
   obtain ⟨l, r, g1, g2, g3⟩ := pc_ y hs a k fuel p1 (acc ++ [t]) (by omega) h1 (by omega) (by simp; omega) (by
    have := n8_ he (encs_one h3)
    rw [bR_ y a (p - a) (p1 - p) p (p1 - a) (by omega) (by omega)] at this
    exact this)
   refine ⟨l, r, ay_ ?_ g1, g2, ?_⟩
   ·unfold aI_
    refine ac_ hc (aa_ e1 (aa_ (hroom _) ?_))
    rw [← hw]
   ·rcases g3 with ⟨g4, g5, g6⟩ | g3
    ·exact .inl ⟨g4, by rw [g5]; simp; omega, g6⟩
    ·exact .inr g3
theorem rnames (y : Str) (a : Nat) (h : a ≤ y.length) (hs : y.length ≤ 1000000) : ∃ l r, bs_ ⟨y, (a : Int), true⟩ = some (l, r) ∧ Rd y a (encL cE_) l r := by
 have hB : BIG = 18446744073709551616 := rfl
 unfold bs_
 have e1 := rnum y a 2 (by omega) (by omega) h hs
 rw [show ((2 : Nat) : Int) = 2 from rfl] at e1
 cases d1 : decN y a 2 with
 | none =>
  rw [d1] at e1
  refine ⟨[], ⟨y, (a : Int), false⟩, aa_ e1 (aa_ (a := ([], ⟨y, (a : Int), false⟩)) ?_ rfl), rfl, .inr rfl⟩
  rw [show BIG = 18446744073709551615 + 1 from rfl]
  refine ap_ ?_
  unfold aI_
  exact ab_ rfl rfl
 | some q1 =>
  obtain ⟨n1, p1⟩ := q1
  rw [d1] at e1
  obtain ⟨a1, b1, c1, g1⟩ := gU_ d1 (by omega)
  have hn : n1 ≤ 65535 := by
   unfold decN at d1
   split at d1
   ·cases d1
   ·split at d1
    ·cases d1
    ·simp only [Option.some.injEq, Prod.mk.injEq] at d1
     obtain ⟨rfl, _⟩ := d1
     have := fo_ y a (by omega)
     omega
  obtain ⟨l, r, k1, k2, k3⟩ := pc_ y hs p1 n1 BIG p1 [] (by omega) b1 (Nat.le_refl _) (by simpa using hn) (by simp [cw_, win])
  refine ⟨l, r, aa_ e1 (aa_ k1 rfl), k2, ?_⟩
  rcases k3 with ⟨k4, k5, p2, k6, k7, k8, k9⟩ | k3
  ·refine .inl ⟨k4, p2, k6, by omega, k8, ?_⟩
   unfold encL
   have hl : l.length = n1 := by simpa using k5
   rw [if_pos (by omega), k9, hl]
   unfold bI_ at g1
   split at g1
   ·have g1 := Option.some.inj g1
    rw [g1, Option.map_some, bR_ y a 2 (p2 - p1) p1 (p2 - a) (by omega) (by omega)]
   ·cases g1
  ·exact .inr k3
theorem qids_loop (y : Str) (hs : y.length ≤ 1000000) (a : Nat) : ∀ (k fuel p : Nat) (acc : List api_Qid), k < fuel → p ≤ y.length → a ≤ p → acc.length + k ≤ 65535 → cw_ ek_ acc = some (win y a (p - a)) →
  ∃ l r, am_ aP_ fuel ((k : Int), ⟨y, (p : Int), true⟩, acc) = some (l, r) ∧ r.s_ = y ∧ ((r.ok_ = true ∧ l.length = acc.length + k ∧ ∃ q : Nat, r.at_ = (q : Int) ∧ a ≤ q ∧ q ≤ y.length ∧ cw_ ek_ l = some (win y a (q - a))) ∨ r.ok_ = false)
 | 0, fuel + 1, p, acc, _, hp, ha, _, he => by
  refine ⟨acc, ⟨y, (p : Int), true⟩, ap_ ?_, rfl, .inl ⟨rfl, rfl, p, rfl, ha, hp, he⟩⟩
  unfold aP_
  exact ab_ rfl rfl
 | k + 1, fuel + 1, p, acc, hk, hp, ha, hl, he => by
  obtain ⟨t, r0, e1, hy0, hr0⟩ := rqid y p hp hs
  have hroom : ∀ t : api_Qid, br_ 24 acc [t] = some (acc ++ [t]) := fun t => bc_ (by simp; omega) (by simp; omega)
  have hw : w64 (((k + 1 : Nat) : Int) - 1) = (k : Int) := by rw [an_ ⟨by omega, by omega⟩]; omega
  have hc : (decide (((k + 1 : Nat) : Int) > 0) && true) = true := by simp <;> omega
  rcases hr0 with ⟨hok, p1, hat, h2, h1, h3⟩ | hno
  ·obtain rfl := mE_ hy0 hat hok
   obtain ⟨l, r, g1, g2, g3⟩ := qids_loop y hs a k fuel p1 (acc ++ [t]) (by omega) h1 (by omega) (by simp; omega) (by
    have := n8_ he (encs_one h3)
    rw [bR_ y a (p - a) (p1 - p) p (p1 - a) (by omega) (by omega)] at this
    exact this)
   refine ⟨l, r, ay_ ?_ g1, g2, ?_⟩
   ·unfold aP_
    refine ac_ hc (aa_ e1 (aa_ (hroom _) ?_))
    rw [← hw]
   ·rcases g3 with ⟨g4, g5, g6⟩ | g3
    ·exact .inl ⟨g4, by rw [g5]; simp; omega, g6⟩
    ·exact .inr g3
  ·cases fuel with
   | zero => omega
   | succ fuel =>
    refine ⟨acc ++ [t], r0, ay_ (s' := ((k : Int), r0, acc ++ [t])) ?_ (ap_ ?_), hy0, .inr hno⟩
    ·unfold aP_
     refine ac_ hc (aa_ e1 (aa_ (hroom _) ?_))
     rw [← hw]
    ·unfold aP_
     exact ab_ (by simp [hno]) rfl
theorem rqids (y : Str) (a : Nat) (h : a ≤ y.length) (hs : y.length ≤ 1000000) : ∃ l r, bD_ ⟨y, (a : Int), true⟩ = some (l, r) ∧ Rd y a (encL ek_) l r := by
 have hB : BIG = 18446744073709551616 := rfl
 unfold bD_
 have e1 := rnum y a 2 (by omega) (by omega) h hs
 rw [show ((2 : Nat) : Int) = 2 from rfl] at e1
 cases d1 : decN y a 2 with
 | none =>
  rw [d1] at e1
  refine ⟨[], ⟨y, (a : Int), false⟩, aa_ e1 (aa_ (a := ([], ⟨y, (a : Int), false⟩)) ?_ rfl), rfl, .inr rfl⟩
  rw [show BIG = 18446744073709551615 + 1 from rfl]
  refine ap_ ?_
  unfold aP_
  exact ab_ rfl rfl
 | some q1 =>
  obtain ⟨n1, p1⟩ := q1
  rw [d1] at e1
  obtain ⟨a1, b1, c1, g1⟩ := gU_ d1 (by omega)
  have hn : n1 ≤ 65535 := by
   unfold decN at d1
   split at d1
   ·cases d1
   ·split at d1
    ·cases d1
    ·simp only [Option.some.injEq, Prod.mk.injEq] at d1
     obtain ⟨rfl, _⟩ := d1
     have := fo_ y a (by omega)
     omega
  obtain ⟨l, r, k1, k2, k3⟩ := qids_loop y hs p1 n1 BIG p1 [] (by omega) b1 (Nat.le_refl _) (by simpa using hn) (by simp [cw_, win])
  refine ⟨l, r, aa_ e1 (aa_ k1 rfl), k2, ?_⟩
  rcases k3 with ⟨k4, k5, p2, k6, k7, k8, k9⟩ | k3
  ·refine .inl ⟨k4, p2, k6, by omega, k8, ?_⟩
   unfold encL
   have hl : l.length = n1 := by simpa using k5
   rw [if_pos (by omega), k9, hl]
   unfold bI_ at g1
   split at g1
   ·have g1 := Option.some.inj g1
    rw [g1, Option.map_some, bR_ y a 2 (p2 - p1) p1 (p2 - a) (by omega) (by omega)]
   ·cases g1
  ·exact .inr k3
theorem rdata (y : Str) (a w : Nat) (h1 : 1 ≤ w) (h8 : w ≤ 8) (h : a ≤ y.length) (hs : y.length ≤ 1000000) : ∃ s r, aT_ ⟨y, (a : Int), true⟩ (w : Int) = some (s, r) ∧ Rd y a (encD · w) s r := by
 unfold aT_
 have e1 := rnum y a w h1 h8 h hs
 cases d1 : decN y a w with
 | none =>
  rw [d1] at e1
  exact ⟨_, _, aa_ e1 (ac_ rfl rfl), rfl, .inr rfl⟩
 | some q1 =>
  obtain ⟨n1, p1⟩ := q1
  rw [d1] at e1
  obtain ⟨a1, b1, c1, g1⟩ := gU_ d1 h8
  have hc1 : n1 ≤ 9223372036854775807 := c1
  have ew : w64 ((y.length : Int) - (p1 : Int)) = ((y.length - p1 : Nat) : Int) := by rw [an_ ⟨by omega, by omega⟩]; omega
  by_cases hlt : n1 > y.length - p1
  ·refine ⟨[], ⟨y, (p1 : Int), false⟩, aa_ e1 (ac_ ?_ rfl), rfl, .inr rfl⟩
   show (!true || decide ((n1 : Int) > w64 ((y.length : Int) - (p1 : Int)))) = true
   rw [ew]; simp; omega
  ·have ex : w64 ((p1 : Int) + (n1 : Int)) = ((p1 + n1 : Nat) : Int) := by rw [an_ ⟨by omega, by omega⟩]; omega
   have ey : w64 (((p1 + n1 : Nat) : Int) - (n1 : Int)) = (p1 : Int) := by rw [an_ ⟨by omega, by omega⟩]; omega
   refine ⟨win y p1 n1, ⟨y, ((p1 + n1 : Nat) : Int), true⟩, aa_ e1 (ab_ ?_ ?_), rfl, .inl ⟨rfl, p1 + n1, rfl, by omega, by show p1 + n1 ≤ y.length; omega, ?_⟩⟩
   ·show (!true || decide ((n1 : Int) > w64 ((y.length : Int) - (p1 : Int)))) = false
    rw [ew]; simp; omega
   ·show Option.bind (bX_ y (w64 (w64 ((p1 : Int) + (n1 : Int)) - (n1 : Int))) (w64 ((p1 : Int) + (n1 : Int)))) _ = _
    rw [ex, ey, ← ex]
    refine aa_ (eC_ y p1 n1 (by omega) (by omega)) ?_
    show some (win y p1 n1, (⟨y, w64 ((p1 : Int) + (n1 : Int)), true⟩ : wire_reader)) = _
    rw [ex]
   ·have hl : (win y p1 n1).length = n1 := bp_ (by omega)
    show encD (win y p1 n1) w = _
    unfold encD
    rw [hl]
    unfold bI_ at g1
    split at g1
    ·rename_i hf
     have g1 := Option.some.inj g1
     rw [if_pos hf, g1, bR_ y a w n1 p1 (p1 + n1 - a) a1 (by omega)]
    ·cases g1
theorem rdata_no (y : Str) (a w : Int) : ∃ s, aT_ ⟨y, a, false⟩ w = some (s, ⟨y, a, false⟩) := by
 unfold aT_
 exact ⟨_, aa_ (fp_ _ _ _) (ac_ rfl rfl)⟩
theorem rstat (y : Str) (a : Nat) (h : a ≤ y.length) (hs : y.length ≤ 1000000) : ∃ d r, bE_ ⟨y, (a : Int), true⟩ = some (d, r) ∧ Rd y a encS d r := by
 unfold bE_
 obtain ⟨s, r, e1, hy, hr⟩ := rdata y a 2 (by omega) (by omega) h hs
 rw [show ((2 : Nat) : Int) = 2 from rfl] at e1
 rcases hr with ⟨hok, p, hat, h1, h2, h3⟩ | hno
 ·obtain rfl := mE_ hy hat hok
  have h3 : encD s 2 = some (win y a (p - a)) := h3
  have hsl : s.length ≤ y.length := by
   unfold encD at h3
   split at h3
   ·have h3 := congrArg List.length (Option.some.inj h3)
    rw [List.length_append, bp_ (by omega)] at h3
    omega
   ·cases h3
  have hg := nD_ s 0 (by omega) (by omega)
  rw [show ((0 : Nat) : Int) = 0 from rfl] at hg
  refine ⟨_, _, aa_ e1 (ab_ rfl (aa_ hg rfl)), rfl, ?_⟩
  cases hc : ((getR s 0).2.2 == 0 && (getR s 0).2.1 == (s.length : Int)) with
  | false => exact .inr rfl
  | true =>
   refine .inl ⟨rfl, p, rfl, h1, h2, ?_⟩
   simp only [Bool.and_eq_true, beq_iff_eq] at hc
   obtain ⟨k1, k2⟩ := putB_getR s (getR s 0).1 (by rw [← hc.1, ← hc.2])
   unfold encS
   rw [if_pos k1, k2]
   unfold encD at h3
   split at h3
   ·exact h3
   ·cases h3
 ·refine ⟨_, _, aa_ e1 (ac_ (by simp [hno]) rfl), hy, .inr hno⟩
theorem rstat_no (y : Str) (a : Int) : ∃ d, bE_ ⟨y, a, false⟩ = some (d, ⟨y, a, false⟩) := by
 unfold bE_
 obtain ⟨s, hs⟩ := rdata_no y a 2
 exact ⟨_, aa_ hs (ac_ rfl rfl)⟩
end Go.Proofs.YtolgkhjkdadhiaaGreat
namespace Go.Proofs.YtolgkhjkdadhiaaGreat
open Go.Rt Go.RowKit
def cZ_ (n : Int) : Str := (eP_ n).getD []
theorem some_cond {α : Type} {c : Bool} {a : α} {x : Option α} (h : x.isSome = true) : (bif c then some a else x).isSome = true := by
 cases c with
 | true => rfl
 | false => exact h
theorem qn_ (n : Int) : (kl_ n).isSome = true := by
 unfold kl_
 repeat (first | rfl | refine some_cond ?_)
theorem pd_ (n : Int) : (jf_ n).isSome = true := by
 unfold jf_
 repeat (first | rfl | refine some_cond ?_)
theorem hC_ (n : Int) : eP_ n = some (cZ_ n) := by
 have h : (eP_ n).isSome = true := by
  unfold eP_
  obtain ⟨a, ha⟩ := Option.isSome_iff_exists.1 (qn_ n)
  obtain ⟨b, hb⟩ := Option.isSome_iff_exists.1 (pd_ n)
  rw [ha, hb]
  cases (decide (n > 0) && decide (n ≤ 24)) <;> rfl
 obtain ⟨a, ha⟩ := Option.isSome_iff_exists.1 h
 unfold cZ_
 rw [ha]; rfl
theorem find_loop (x : Str) : ∀ (k fuel i : Nat), i + k = 60 → k < fuel → ∃ o, am_ (cq_ x) fuel (i : Int) = some o ∧ ∀ e b, o = .ret (e, b) → b = true ∧ cZ_ e = x
 | 0, fuel + 1, i, hi, _ => by
  refine ⟨.fall (), ap_ ?_, fun e b h => by cases h⟩
  unfold cq_
  exact ab_ (by simp; omega) rfl
 | k + 1, fuel + 1, i, hi, hk => by
  have hc : decide ((i : Int) ≤ 59) = true := by simp; omega
  cases hx : (cZ_ (i : Int) == x) with
  | true =>
   refine ⟨.ret ((i : Int), true), ap_ ?_, fun e b h => ?_⟩
   ·unfold cq_
    refine ac_ hc (aa_ (hC_ _) ?_)
    exact ac_ hx rfl
   ·simp only [Out.ret.injEq, Prod.mk.injEq] at h
    obtain ⟨rfl, rfl⟩ := h
    exact ⟨rfl, by simpa using hx⟩
  | false =>
   obtain ⟨o, h1, h2⟩ := find_loop x k fuel (i + 1) (by omega) (by omega)
   refine ⟨o, ay_ ?_ h1, h2⟩
   unfold cq_
   refine ac_ hc (aa_ (hC_ _) ?_)
   refine ab_ hx ?_
   rw [an_ (n := (i : Int) + 1) ⟨by omega, by omega⟩]
   rfl
theorem find_eq (x : Str) : ∃ e b, d5_ x = some (e, b) ∧ (b = true → cZ_ e = x) := by
 unfold d5_
 cases h : (x == []) with
 | true => exact ⟨0, false, rfl, fun h => by cases h⟩
 | false =>
  obtain ⟨o, h1, h2⟩ := find_loop x 59 BIG 1 rfl (by show (59 : Nat) < 18446744073709551616; omega)
  rw [show ((1 : Nat) : Int) = 1 from rfl] at h1
  cases o with
  | fall _ => exact ⟨0, false, ab_ rfl (aa_ h1 rfl), fun h => by cases h⟩
  | ret r =>
   obtain ⟨e, b⟩ := r
   exact ⟨e, b, ab_ rfl (aa_ h1 rfl), fun _ => (h2 e b rfl).2⟩
theorem rfault (y : Str) (a : Nat) (h : a ≤ y.length) (hs : y.length ≤ 1000000) : ∃ e r, bN_ ⟨y, (a : Int), true⟩ = some (e, r) ∧ Rd y a (fun n => cE_ (cZ_ n)) e r := by
 unfold bN_
 have e1 := rtext y a h hs
 cases d1 : aX_ y a with
 | none =>
  rw [d1] at e1
  obtain ⟨e, b, h2, _⟩ := find_eq []
  exact ⟨_, _, aa_ e1 (aa_ h2 rfl), rfl, .inr rfl⟩
 | some q =>
  obtain ⟨t, p⟩ := q
  rw [d1] at e1
  obtain ⟨k1, k2, k3⟩ := mD_ d1
  obtain ⟨e, b, h2, h3⟩ := find_eq t
  refine ⟨_, _, aa_ e1 (aa_ h2 rfl), rfl, ?_⟩
  cases b with
  | false => exact .inr rfl
  | true => exact .inl ⟨rfl, p, rfl, k2, k1, by show cE_ (cZ_ e) = _; rw [h3 rfl]; exact k3⟩
theorem rfault_no (y : Str) (a : Int) : ∃ e, bN_ ⟨y, a, false⟩ = some (e, ⟨y, a, false⟩) := by
 unfold bN_
 obtain ⟨e, b, h2, _⟩ := find_eq []
 exact ⟨_, aa_ (rtext_no _ _) (aa_ h2 rfl)⟩
theorem rnames_no (y : Str) (a : Int) : ∃ l, bs_ ⟨y, a, false⟩ = some (l, ⟨y, a, false⟩) := by
 unfold bs_
 refine ⟨[], aa_ (fp_ _ _ _) (aa_ (a := ([], ⟨y, a, false⟩)) ?_ rfl)⟩
 rw [show BIG = 18446744073709551615 + 1 from rfl]
 refine ap_ ?_
 unfold aI_
 exact ab_ rfl rfl
theorem rqids_no (y : Str) (a : Int) : ∃ l, bD_ ⟨y, a, false⟩ = some (l, ⟨y, a, false⟩) := by
 unfold bD_
 refine ⟨[], aa_ (fp_ _ _ _) (aa_ (a := ([], ⟨y, a, false⟩)) ?_ rfl)⟩
 rw [show BIG = 18446744073709551615 + 1 from rfl]
 refine ap_ ?_
 unfold aP_
 exact ab_ rfl rfl
inductive Lt where
 | m | v | s | a | u | x | q | f | e | o | n | w | W | M | i | N | p | O | c | d | S | l | t
deriving DecidableEq
def Lt.byte : Lt → Nat
 | .m => 109 | .v => 118 | .s => 115 | .a => 97 | .u => 117 | .x => 120 | .q => 113 | .f => 102 | .e => 101 | .o => 111 | .n => 110 | .w => 119
 | .W => 87 | .M => 77 | .i => 105 | .N => 78 | .p => 112 | .O => 79 | .c => 99 | .d => 100 | .S => 83 | .l => 108 | .t => 116
def encF (k : Lt) (m : api_Msg) : Option Str := match k with
 | .m => bI_ m.Msize_ 4 | .v => cE_ m.Version_ | .s => cE_ m.Session_ | .a => bI_ m.AuthFid_ 4 | .u => cE_ m.User_ | .x => cE_ m.Attach_
 | .q => ek_ m.Qid_ | .f => bI_ m.Fid_ 4 | .e => cE_ (cZ_ m.Err_) | .o => bI_ m.OldTag_ 2 | .n => bI_ m.NewFid_ 4 | .w => encL cE_ m.Names_
 | .W => encL ek_ m.Qids_ | .M => bI_ m.Mode_ 1 | .i => bI_ m.Iounit_ 4 | .N => cE_ m.Name_ | .p => bI_ m.Perm_ 4 | .O => bI_ m.Offset_ 8
 | .c => bI_ m.Count_ 4 | .d => encD m.Data_ 4 | .S => encS m.Stat_ | .l => bI_ m.Lease_ 1 | .t => bI_ m.Term_ 4
def cpF (k : Lt) (m' m : api_Msg) : api_Msg := match k with
 | .m => { m with Msize_ := m'.Msize_ } | .v => { m with Version_ := m'.Version_ } | .s => { m with Session_ := m'.Session_ } | .a => { m with AuthFid_ := m'.AuthFid_ }
 | .u => { m with User_ := m'.User_ } | .x => { m with Attach_ := m'.Attach_ } | .q => { m with Qid_ := m'.Qid_ } | .f => { m with Fid_ := m'.Fid_ }
 | .e => { m with Err_ := m'.Err_ } | .o => { m with OldTag_ := m'.OldTag_ } | .n => { m with NewFid_ := m'.NewFid_ } | .w => { m with Names_ := m'.Names_ }
 | .W => { m with Qids_ := m'.Qids_ } | .M => { m with Mode_ := m'.Mode_ } | .i => { m with Iounit_ := m'.Iounit_ } | .N => { m with Name_ := m'.Name_ }
 | .p => { m with Perm_ := m'.Perm_ } | .O => { m with Offset_ := m'.Offset_ } | .c => { m with Count_ := m'.Count_ } | .d => { m with Data_ := m'.Data_ }
 | .S => { m with Stat_ := m'.Stat_ } | .l => { m with Lease_ := m'.Lease_ } | .t => { m with Term_ := m'.Term_ }
theorem encF_cp (k : Lt) (m' m : api_Msg) : encF k (cpF k m' m) = encF k m' := by cases k <;> rfl
theorem encF_other (k k' : Lt) (h : k ≠ k') (m' m : api_Msg) : encF k (cpF k' m' m) = encF k m := by cases k <;> cases k' <;> first | exact absurd rfl h | rfl
theorem ni_ (k : Lt) (m' m : api_Msg) : (cpF k m' m).Kind_ = m.Kind_ ∧ (cpF k m' m).Tag_ = m.Tag_ := by cases k <;> exact ⟨rfl, rfl⟩
theorem Rd.cp {α : Type} {y : Str} {a : Nat} {enc : α → Option Str} {x : α} {r : wire_reader} {enc' : api_Msg → Option Str} {m : api_Msg} (h : Rd y a enc x r) (he : enc x = enc' m) : Rd y a enc' m r :=
 ⟨h.1, h.2.imp (fun ⟨h1, p, h2, h3, h4, h5⟩ => ⟨h1, p, h2, h3, h4, he ▸ h5⟩) id⟩
theorem rnumR (y : Str) (a w : Nat) (h1 : 1 ≤ w) (h8 : w ≤ 8) (h : a ≤ y.length) (hs : y.length ≤ 1000000) : ∃ n r, al_ ⟨y, (a : Int), true⟩ (w : Int) = some (n, r) ∧ Rd y a (fun n => bI_ n w) n r := by
 have e1 := rnum y a w h1 h8 h hs
 cases d1 : decN y a w with
 | none => rw [d1] at e1; exact ⟨_, _, e1, rfl, .inr rfl⟩
 | some q =>
  obtain ⟨n, p⟩ := q
  rw [d1] at e1
  obtain ⟨a1, b1, c1, g1⟩ := gU_ d1 h8
  exact ⟨_, _, e1, rfl, .inl ⟨rfl, p, rfl, by omega, b1, by rw [show p - a = w by omega]; exact g1⟩⟩
theorem rtextR (y : Str) (a : Nat) (h : a ≤ y.length) (hs : y.length ≤ 1000000) : ∃ t r, aE_ ⟨y, (a : Int), true⟩ = some (t, r) ∧ Rd y a cE_ t r := by
 have e1 := rtext y a h hs
 cases d1 : aX_ y a with
 | none => rw [d1] at e1; exact ⟨_, _, e1, rfl, .inr rfl⟩
 | some q =>
  obtain ⟨t, p⟩ := q
  rw [d1] at e1
  obtain ⟨k1, k2, k3⟩ := mD_ d1
  exact ⟨_, _, e1, rfl, .inl ⟨rfl, p, rfl, k2, k1, k3⟩⟩
theorem rfield (k : Lt) (y : Str) (a : Nat) (m : api_Msg) (h : a ≤ y.length) (hs : y.length ≤ 1000000) : ∃ m' r, ah_ ⟨y, (a : Int), true⟩ m (k.byte : Int) = some (r, cpF k m' m) ∧ Rd y a (encF k) m' r := by
 have N : ∀ w : Nat, 1 ≤ w → w ≤ 8 → _ := fun w h1 h8 => rnumR y a w h1 h8 h hs
 have N1 := N 1 (by omega) (by omega)
 have N2 := N 2 (by omega) (by omega)
 have N4 := N 4 (by omega) (by omega)
 have N8 := N 8 (by omega) (by omega)
 rw [show ((1 : Nat) : Int) = 1 from rfl] at N1
 rw [show ((2 : Nat) : Int) = 2 from rfl] at N2
 rw [show ((4 : Nat) : Int) = 4 from rfl] at N4
 rw [show ((8 : Nat) : Int) = 8 from rfl] at N8
 have T := rtextR y a h hs
 unfold ah_
 cases k with
 | m => obtain ⟨n, r, e1, e2⟩ := N4; exact ⟨{ m with Msize_ := n }, r, aa_ e1 rfl, e2.cp rfl⟩
 | v => obtain ⟨n, r, e1, e2⟩ := T; exact ⟨{ m with Version_ := n }, r, aa_ e1 rfl, e2.cp rfl⟩
 | s => obtain ⟨n, r, e1, e2⟩ := T; exact ⟨{ m with Session_ := n }, r, aa_ e1 rfl, e2.cp rfl⟩
 | a => obtain ⟨n, r, e1, e2⟩ := N4; exact ⟨{ m with AuthFid_ := n }, r, aa_ e1 rfl, e2.cp rfl⟩
 | u => obtain ⟨n, r, e1, e2⟩ := T; exact ⟨{ m with User_ := n }, r, aa_ e1 rfl, e2.cp rfl⟩
 | x => obtain ⟨n, r, e1, e2⟩ := T; exact ⟨{ m with Attach_ := n }, r, aa_ e1 rfl, e2.cp rfl⟩
 | q => obtain ⟨n, r, e1, e2⟩ := rqid y a h hs; exact ⟨{ m with Qid_ := n }, r, aa_ e1 rfl, e2⟩
 | f => obtain ⟨n, r, e1, e2⟩ := N4; exact ⟨{ m with Fid_ := n }, r, aa_ e1 rfl, e2.cp rfl⟩
 | e => obtain ⟨n, r, e1, e2⟩ := rfault y a h hs; exact ⟨{ m with Err_ := n }, r, aa_ e1 rfl, e2.cp rfl⟩
 | o => obtain ⟨n, r, e1, e2⟩ := N2; exact ⟨{ m with OldTag_ := n }, r, aa_ e1 rfl, e2.cp rfl⟩
 | n => obtain ⟨n, r, e1, e2⟩ := N4; exact ⟨{ m with NewFid_ := n }, r, aa_ e1 rfl, e2.cp rfl⟩
 | w => obtain ⟨n, r, e1, e2⟩ := rnames y a h hs; exact ⟨{ m with Names_ := n }, r, aa_ e1 rfl, e2.cp rfl⟩
 | W => obtain ⟨n, r, e1, e2⟩ := rqids y a h hs; exact ⟨{ m with Qids_ := n }, r, aa_ e1 rfl, e2.cp rfl⟩
 | M => obtain ⟨n, r, e1, e2⟩ := N1; exact ⟨{ m with Mode_ := n }, r, aa_ e1 rfl, e2.cp rfl⟩
 | i => obtain ⟨n, r, e1, e2⟩ := N4; exact ⟨{ m with Iounit_ := n }, r, aa_ e1 rfl, e2.cp rfl⟩
 | N => obtain ⟨n, r, e1, e2⟩ := T; exact ⟨{ m with Name_ := n }, r, aa_ e1 rfl, e2.cp rfl⟩
 | p => obtain ⟨n, r, e1, e2⟩ := N4; exact ⟨{ m with Perm_ := n }, r, aa_ e1 rfl, e2.cp rfl⟩
 | O => obtain ⟨n, r, e1, e2⟩ := N8; exact ⟨{ m with Offset_ := n }, r, aa_ e1 rfl, e2.cp rfl⟩
 | c => obtain ⟨n, r, e1, e2⟩ := N4; exact ⟨{ m with Count_ := n }, r, aa_ e1 rfl, e2.cp rfl⟩
 | d => obtain ⟨n, r, e1, e2⟩ := rdata y a 4 (by omega) (by omega) h hs; exact ⟨{ m with Data_ := n }, r, aa_ e1 rfl, e2.cp rfl⟩
 | S => obtain ⟨n, r, e1, e2⟩ := rstat y a h hs; exact ⟨{ m with Stat_ := n }, r, aa_ e1 rfl, e2.cp rfl⟩
 | l => obtain ⟨n, r, e1, e2⟩ := N1; exact ⟨{ m with Lease_ := n }, r, aa_ e1 rfl, e2.cp rfl⟩
 | t => obtain ⟨n, r, e1, e2⟩ := N4; exact ⟨{ m with Term_ := n }, r, aa_ e1 rfl, e2.cp rfl⟩
theorem dG_ (r : wire_reader) (h : r.ok_ = false) (w : Int) : ∃ n, al_ r w = some (n, r) := by
 obtain ⟨y, a, o⟩ := r; cases h; exact ⟨_, fp_ y a w⟩
theorem jT_ (r : wire_reader) (h : r.ok_ = false) : ∃ n, aE_ r = some (n, r) := by
 obtain ⟨y, a, o⟩ := r; cases h; exact ⟨_, rtext_no y a⟩
theorem xqid_no (r : wire_reader) (h : r.ok_ = false) : ∃ n, bo_ r = some (n, r) := by
 obtain ⟨y, a, o⟩ := r; cases h; exact rqid_no y a
theorem xfault_no (r : wire_reader) (h : r.ok_ = false) : ∃ n, bN_ r = some (n, r) := by
 obtain ⟨y, a, o⟩ := r; cases h; exact rfault_no y a
theorem xnames_no (r : wire_reader) (h : r.ok_ = false) : ∃ n, bs_ r = some (n, r) := by
 obtain ⟨y, a, o⟩ := r; cases h; exact rnames_no y a
theorem xqids_no (r : wire_reader) (h : r.ok_ = false) : ∃ n, bD_ r = some (n, r) := by
 obtain ⟨y, a, o⟩ := r; cases h; exact rqids_no y a
theorem xdata_no (r : wire_reader) (h : r.ok_ = false) (w : Int) : ∃ n, aT_ r w = some (n, r) := by
 obtain ⟨y, a, o⟩ := r; cases h; exact rdata_no y a w
theorem xstat_no (r : wire_reader) (h : r.ok_ = false) : ∃ n, bE_ r = some (n, r) := by
 obtain ⟨y, a, o⟩ := r; cases h; exact rstat_no y a
theorem rfield_no (k : Lt) (r0 : wire_reader) (h : r0.ok_ = false) (m : api_Msg) : ∃ m', ah_ r0 m (k.byte : Int) = some (r0, cpF k m' m) := by
 unfold ah_
 cases k with
 | m => obtain ⟨n, e1⟩ := dG_ r0 h 4; exact ⟨{ m with Msize_ := n }, aa_ e1 rfl⟩
 | v => obtain ⟨n, e1⟩ := jT_ r0 h; exact ⟨{ m with Version_ := n }, aa_ e1 rfl⟩
 | s => obtain ⟨n, e1⟩ := jT_ r0 h; exact ⟨{ m with Session_ := n }, aa_ e1 rfl⟩
 | a => obtain ⟨n, e1⟩ := dG_ r0 h 4; exact ⟨{ m with AuthFid_ := n }, aa_ e1 rfl⟩
 | u => obtain ⟨n, e1⟩ := jT_ r0 h; exact ⟨{ m with User_ := n }, aa_ e1 rfl⟩
 | x => obtain ⟨n, e1⟩ := jT_ r0 h; exact ⟨{ m with Attach_ := n }, aa_ e1 rfl⟩
 | q => obtain ⟨n, e1⟩ := xqid_no r0 h; exact ⟨{ m with Qid_ := n }, aa_ e1 rfl⟩
 | f => obtain ⟨n, e1⟩ := dG_ r0 h 4; exact ⟨{ m with Fid_ := n }, aa_ e1 rfl⟩
 | e => obtain ⟨n, e1⟩ := xfault_no r0 h; exact ⟨{ m with Err_ := n }, aa_ e1 rfl⟩
 | o => obtain ⟨n, e1⟩ := dG_ r0 h 2; exact ⟨{ m with OldTag_ := n }, aa_ e1 rfl⟩
 | n => obtain ⟨n, e1⟩ := dG_ r0 h 4; exact ⟨{ m with NewFid_ := n }, aa_ e1 rfl⟩
 | w => obtain ⟨n, e1⟩ := xnames_no r0 h; exact ⟨{ m with Names_ := n }, aa_ e1 rfl⟩
 | W => obtain ⟨n, e1⟩ := xqids_no r0 h; exact ⟨{ m with Qids_ := n }, aa_ e1 rfl⟩
 | M => obtain ⟨n, e1⟩ := dG_ r0 h 1; exact ⟨{ m with Mode_ := n }, aa_ e1 rfl⟩
 | i => obtain ⟨n, e1⟩ := dG_ r0 h 4; exact ⟨{ m with Iounit_ := n }, aa_ e1 rfl⟩
 | N => obtain ⟨n, e1⟩ := jT_ r0 h; exact ⟨{ m with Name_ := n }, aa_ e1 rfl⟩
 | p => obtain ⟨n, e1⟩ := dG_ r0 h 4; exact ⟨{ m with Perm_ := n }, aa_ e1 rfl⟩
 | O => obtain ⟨n, e1⟩ := dG_ r0 h 8; exact ⟨{ m with Offset_ := n }, aa_ e1 rfl⟩
 | c => obtain ⟨n, e1⟩ := dG_ r0 h 4; exact ⟨{ m with Count_ := n }, aa_ e1 rfl⟩
 | d => obtain ⟨n, e1⟩ := xdata_no r0 h 4; exact ⟨{ m with Data_ := n }, aa_ e1 rfl⟩
 | S => obtain ⟨n, e1⟩ := xstat_no r0 h; exact ⟨{ m with Stat_ := n }, aa_ e1 rfl⟩
 | l => obtain ⟨n, e1⟩ := dG_ r0 h 1; exact ⟨{ m with Lease_ := n }, aa_ e1 rfl⟩
 | t => obtain ⟨n, e1⟩ := dG_ r0 h 4; exact ⟨{ m with Term_ := n }, aa_ e1 rfl⟩
end Go.Proofs.YtolgkhjkdadhiaaGreat
namespace Go.Proofs.YtolgkhjkdadhiaaGreat
open Go.Rt Go.RowKit
theorem cQ_ {α β : Type} {x : Option α} {f : α → Option β} (h : x.isSome = true) (hf : ∀ a, x = some a → (f a).isSome = true) : (x.bind f).isSome = true := by
 cases x with
 | none => cases h
 | some a => exact hf a rfl
theorem ci_ {α : Type} {c : Bool} {a b : Option α} (h : c = true → a.isSome = true) (h' : c = false → b.isSome = true) : (bif c then a else b).isSome = true := by
 cases c with
 | true => exact h rfl
 | false => exact h' rfl
theorem Option.get_some {α : Type} {x : Option α} (h : x.isSome = true) : ∃ a, x = some a := Option.isSome_iff_exists.1 h
theorem b8_ {α β : Type} {body : Int → Option (Step Int (Out Unit β))} (xs : List α) (p : α → Option β) (hn : xs.length < BIG)
  (hb : ∀ i (h : i < xs.length), body (i : Int) = match p xs[i] with | none => some (.next ((i + 1 : Nat) : Int)) | some r => some (.done (.ret r)))
  (he : body (xs.length : Int) = some (.done (.fall ()))) : am_ body BIG 0 = some (match xs.findSome? p with | none => .fall () | some r => .ret r) := by
 refine h7_ (J := fun i s b => s = (i : Int) ∧ b = match (xs.drop i).findSome? p with | none => .fall () | some r => .ret r) xs.length hn (fun s b hJ => ?_) (fun i s b hi hJ => ?_) (by simp)
 ·obtain ⟨rfl, rfl⟩ := hJ
  rw [he]; simp
 ·obtain ⟨rfl, rfl⟩ := hJ
  rw [hb i hi, List.drop_eq_getElem_cons hi, List.findSome?_cons]
  cases hp : p xs[i] with
  | none => exact .inr ⟨_, rfl, rfl, rfl⟩
  | some r => exact .inl rfl
theorem iM_ {α β : Type} {p : α → Option β} : ∀ {xs : List α}, xs.findSome? p = none → ∀ x ∈ xs, p x = none
 | [], _, x, h => by cases h
 | y :: xs, h, x, hx => by
  rw [List.findSome?_cons] at h
  cases hp : p y with
  | some r => rw [hp] at h; cases h
  | none =>
   rw [hp] at h
   cases hx with
   | head => exact hp
   | tail _ hx => exact iM_ h x hx
theorem n9_ {α : Type} [DecidableEq α] : ∀ (xs ys : List α), xs.length = ys.length → (xs.zip ys).findSome? (fun p => if p.1 = p.2 then none else some false) = if xs = ys then none else some false
 | [], [], _ => rfl
 | [], _ :: _, h => by cases h
 | _ :: _, [], h => by cases h
 | x :: xs, y :: ys, h => by
  rw [List.zip_cons_cons, List.findSome?_cons]
  by_cases hx : x = y
  ·subst hx
   simp only [if_true]
   rw [n9_ xs ys (by simpa using h)]
   simp
  ·simp [hx]
theorem jv_ {α : Type} {xs ys : List α} (h : xs.length = ys.length) : (xs.zip ys).length = xs.length := by simp [h]
theorem eJ_ (k : Int) : (bv_ k).isSome = true := by
 unfold bv_
 refine ci_ (fun _ => rfl) fun h => ?_
 simp only [Bool.or_eq_false_iff, decide_eq_false_iff_not] at h
 obtain ⟨n, hn⟩ : ∃ n : Nat, k - 100 = (n : Int) := ⟨(k - 100).toNat, by omega⟩
 rw [hn, an_ (n := (n : Int)) ⟨by omega, by omega⟩]
 refine cQ_ ?_ fun _ _ => rfl
 rw [au_ (by show n < 32; omega)]; rfl
def inR (x a b : Int) : Int := if a ≤ x ∧ x ≤ b then 0 else 5
theorem bH_ (x a b : Int) : cW_ x a b = some (inR x a b) := by
 unfold cW_ inR
 by_cases h : a ≤ x ∧ x ≤ b
 ·rw [if_pos h]; exact ab_ (by simp; omega) rfl
 ·rw [if_neg h]; exact ac_ (by simp; omega) rfl
theorem bz_ (x : Int) : dF_ x = some (inR x 0 4294967294) := by
 unfold dF_; rw [bH_]; rfl
def aS_ (s : Str) (n : Int) : Int := if (s.length : Int) ≤ n then 0 else 4
theorem aK_ (s : Str) (n : Int) : dd_ s n = some (aS_ s n) := by
 unfold dd_ aS_
 by_cases h : (s.length : Int) ≤ n
 ·rw [if_pos h]; exact ab_ (by simp; omega) rfl
 ·rw [if_neg h]; exact ac_ (by simp; omega) rfl
def b9_ (y : Int) : Option Int := if y = 0 then none else some y
def bG_ (xs : List Int) : Int := match xs.findSome? b9_ with | none => 0 | some y => y
theorem aj_ (xs : List Int) (h : xs.length ≤ 1000000) : cj_ xs = some (bG_ xs) := by
 unfold cj_
 have hB : BIG = 18446744073709551616 := rfl
 refine aa_ (b8_ xs b9_ (by omega) (fun i hi => ?_) ?_) ?_
 ·unfold jO_
  refine ac_ (by simp; omega) (aa_ (au_ hi) ?_)
  rw [an_ (n := (i : Int) + 1) ⟨by omega, by omega⟩]
  unfold b9_
  by_cases hy : xs[i] = 0
  ·rw [if_pos hy]; exact ab_ (by simp [hy]) rfl
  ·rw [if_neg hy]; exact ac_ (by simp [hy]) rfl
 ·unfold jO_
  exact ab_ (by simp) rfl
 ·unfold bG_
  cases xs.findSome? b9_ <;> rfl
theorem ao_ {xs : List Int} (h : bG_ xs = 0) : ∀ x ∈ xs, x = 0 := by
 unfold bG_ at h
 have key : xs.findSome? b9_ = none := by
  cases e : xs.findSome? b9_ with
  | none => rfl
  | some y =>
   rw [e] at h
   obtain ⟨a, _, ha⟩ := List.exists_of_findSome?_eq_some e
   unfold b9_ at ha
   split at ha
   ·cases ha
   ·cases ha; exact absurd h ‹_›
 intro x hx
 have := iM_ key x hx
 unfold b9_ at this
 split at this
 ·assumption
 ·cases this
def dO_ (q : api_Qid) : Int := if decide (q.Type_ < 0) || (es_ .i64 q.Type_ 232 != 0) then 5 else bG_ [inR q.Vers_ 0 2147483647, inR q.Path_ 0 1099511627776]
theorem bu_ (q : api_Qid) : ju_ q = some (dO_ q) := by
 unfold ju_ dO_
 cases h : (decide (q.Type_ < 0) || (es_ .i64 q.Type_ 232 != 0)) with
 | true => rfl
 | false => exact ab_ rfl (aa_ (bH_ _ _ _) (aa_ (bH_ _ _ _) (aa_ (aj_ _ (by simp)) rfl)))
def hD_ (s : Str) : Option Int := if s = [46, 46] ∨ b7_ s = true then none else some 6
def hE_ (l : List Str) : Int := if l.length > 16 then 4 else match l.findSome? hD_ with | none => 0 | some y => y
theorem aQ_ (l : List Str) (hl : ∀ s ∈ l, s.length ≤ 9223372036854775807) : kj_ l = some (hE_ l) := by
 unfold kj_ hE_
 have hB : BIG = 18446744073709551616 := rfl
 by_cases h : l.length > 16
 ·rw [if_pos h]; exact ac_ (by simp; omega) rfl
 ·rw [if_neg h]
  refine ab_ (by simp; omega) (aa_ (b8_ l hD_ (by omega) (fun i hi => ?_) ?_) ?_)
  ·unfold jP_
   refine ac_ (by simp; omega) (aa_ (au_ hi) ?_)
   rw [an_ (n := (i : Int) + 1) ⟨by omega, by omega⟩, n4_ _ (hl _ (List.getElem_mem hi))]
   generalize l[i] = s
   unfold hD_
   by_cases h1 : s = [46, 46]
   ·subst h1; rfl
   ·have h2 : (!(s == [46, 46])) = true := by simpa using h1
    rw [h2]
    cases b7_ s <;> simp [h1]
  ·unfold jP_
   exact ab_ (by simp) rfl
  ·cases l.findSome? hD_ <;> rfl
def qid1 (q : api_Qid) : Option Int := b9_ (dO_ q)
def jl_ (l : List api_Qid) : Int := if l.length > 16 then 4 else match l.findSome? qid1 with | none => 0 | some y => y
theorem aZ_ (l : List api_Qid) : lA_ l = some (jl_ l) := by
 unfold lA_ jl_
 have hB : BIG = 18446744073709551616 := rfl
 by_cases h : l.length > 16
 ·rw [if_pos h]; exact ac_ (by simp; omega) rfl
 ·rw [if_neg h]
  refine ab_ (by simp; omega) (aa_ (b8_ l qid1 (by omega) (fun i hi => ?_) ?_) ?_)
  ·unfold kF_
   refine ac_ (by simp; omega) (aa_ (au_ hi) (aa_ (bu_ _) ?_))
   rw [an_ (n := (i : Int) + 1) ⟨by omega, by omega⟩]
   unfold qid1 b9_
   by_cases hy : dO_ l[i] = 0
   ·rw [if_pos hy]; exact ab_ (by simp [hy]) rfl
   ·rw [if_neg hy]; exact ac_ (by simp [hy]) rfl
  ·unfold kF_
   exact ab_ (by simp) rfl
  ·cases l.findSome? qid1 <;> rfl
theorem aR_ (s : Str) (h : s.length ≤ 9223372036854775807) : kk_ s = some (if b7_ s then 0 else 6) := by
 unfold kk_
 refine aa_ (n4_ s h) ?_
 cases b7_ s <;> rfl
theorem strs_eq (xs ys : List Str) (h : xs.length ≤ 9223372036854775807) : cC_ xs ys = some (decide (xs = ys)) := by
 unfold cC_
 have hB : BIG = 18446744073709551616 := rfl
 by_cases hl : xs.length = ys.length
 ·refine ab_ (by simp; omega) (aa_ (b8_ (xs.zip ys) (fun p => if p.1 = p.2 then none else some false) (by rw [jv_ hl]; omega) (fun i hi => ?_) ?_) ?_)
  ·rw [jv_ hl] at hi
   unfold c1_
   refine ac_ (by simp; omega) (aa_ (au_ hi) (aa_ (au_ (hl ▸ hi)) ?_))
   rw [an_ (n := (i : Int) + 1) ⟨by omega, by omega⟩]
   rw [List.getElem_zip]
   by_cases he : xs[i] = ys[i]
   ·simp only [he, if_true]; exact ab_ (by simp) rfl
   ·simp only [he, if_false]; exact ac_ (by simpa using he) rfl
  ·rw [jv_ hl]
   unfold c1_
   exact ab_ (by simp) rfl
  ·rw [n9_ xs ys hl]
   by_cases he : xs = ys <;> simp [he]
 ·refine ac_ (by simp; omega) ?_
  have : xs ≠ ys := fun h => hl (by rw [h])
  simp [this]
theorem qidl_eq (xs ys : List api_Qid) (h : xs.length ≤ 9223372036854775807) : cD_ xs ys = some (decide (xs = ys)) := by
 unfold cD_
 have hB : BIG = 18446744073709551616 := rfl
 by_cases hl : xs.length = ys.length
 ·refine ab_ (by simp; omega) (aa_ (b8_ (xs.zip ys) (fun p => if p.1 = p.2 then none else some false) (by rw [jv_ hl]; omega) (fun i hi => ?_) ?_) ?_)
  ·rw [jv_ hl] at hi
   unfold c2_
   refine ac_ (by simp; omega) (aa_ (au_ hi) (aa_ (au_ (hl ▸ hi)) ?_))
   rw [an_ (n := (i : Int) + 1) ⟨by omega, by omega⟩]
   rw [List.getElem_zip]
   by_cases he : xs[i] = ys[i]
   ·simp only [he, if_true]; exact ab_ (by simp) rfl
   ·simp only [he, if_false]; exact ac_ (by simp) rfl
  ·rw [jv_ hl]
   unfold c2_
   exact ab_ (by simp) rfl
  ·rw [n9_ xs ys hl]
   by_cases he : xs = ys <;> simp [he]
 ·refine ac_ (by simp; omega) ?_
  have : xs ≠ ys := fun h => hl (by rw [h])
  simp [this]
def api_Msg.small (m : api_Msg) : Prop := m.Names_.length ≤ 9223372036854775807 ∧ (∀ s ∈ m.Names_, s.length ≤ 9223372036854775807) ∧ m.Qids_.length ≤ 9223372036854775807 ∧ m.Name_.length ≤ 9223372036854775807 ∧ m.Stat_.ok
theorem same_eq (x y : api_Msg) (hx : x.Names_.length ≤ 9223372036854775807) (hq : x.Qids_.length ≤ 9223372036854775807) : jN_ x y = some (decide (x = y)) := by
 unfold jN_ jd_ je_
 rw [strs_eq x.Names_ y.Names_ hx, qidl_eq x.Qids_ y.Qids_ hq]
 obtain ⟨x1, x2, x3, x4, x5, x6, x7, x8, x9, x10, x11, x12, x13, x14, x15, x16, x17, x18, x19, x20, x21, x22, x23, x24, x25⟩ := x
 obtain ⟨y1, y2, y3, y4, y5, y6, y7, y8, y9, y10, y11, y12, y13, y14, y15, y16, y17, y18, y19, y20, y21, y22, y23, y24, y25⟩ := y
 simp only [Option.bind_some, Arr13_int.mk.injEq, Arr6_string.mk.injEq, api_Msg.mk.injEq]
 by_cases a1 : x1 = y1 ∧ x2 = y2 ∧ x3 = y3 ∧ x4 = y4 ∧ x5 = y5 ∧ x6 = y6 ∧ x7 = y7 ∧ x14 = y14 ∧ x15 = y15 ∧ x16 = y16 ∧ x18 = y18 ∧ x19 = y19 ∧ x23 = y23
 ·by_cases a2 : x8 = y8 ∧ x9 = y9 ∧ x10 = y10 ∧ x17 = y17 ∧ x20 = y20 ∧ x25 = y25
  ·by_cases b1 : x24 = y24 <;> by_cases b2 : x22 = y22 <;> by_cases b3 : x13 = y13 <;> by_cases b4 : x21 = y21 <;> by_cases b5 : x11 = y11 <;> by_cases b6 : x12 = y12 <;>
   simp only [a1, a2, b1, b2, b3, b4, b5, b6, and_true, and_false, and_self, decide_true, decide_false, cond_true, cond_false, Option.bind_some, beq_self_eq_true, show ∀ a b : Int, (a == b) = decide (a = b) from fun _ _ => rfl, Bool.and_true, Bool.and_false]
  ·have : ¬ (x1 = y1 ∧ x2 = y2 ∧ x3 = y3 ∧ x4 = y4 ∧ x5 = y5 ∧ x6 = y6 ∧ x7 = y7 ∧ x8 = y8 ∧ x9 = y9 ∧ x10 = y10 ∧ x11 = y11 ∧ x12 = y12 ∧ x13 = y13 ∧ x14 = y14 ∧ x15 = y15 ∧ x16 = y16 ∧ x17 = y17 ∧ x18 = y18 ∧ x19 = y19 ∧ x20 = y20 ∧ x21 = y21 ∧ x22 = y22 ∧ x23 = y23 ∧ x24 = y24 ∧ x25 = y25) := fun h => a2 ⟨h.2.2.2.2.2.2.2.1, h.2.2.2.2.2.2.2.2.1, h.2.2.2.2.2.2.2.2.2.1, h.2.2.2.2.2.2.2.2.2.2.2.2.2.2.2.2.1, h.2.2.2.2.2.2.2.2.2.2.2.2.2.2.2.2.2.2.2.1, h.2.2.2.2.2.2.2.2.2.2.2.2.2.2.2.2.2.2.2.2.2.2.2.2⟩
   simp only [decide_eq_true a1, decide_eq_false a2, decide_eq_false this, cond_true, cond_false, Option.bind_some, Bool.false_and]
 ·have : ¬ (x1 = y1 ∧ x2 = y2 ∧ x3 = y3 ∧ x4 = y4 ∧ x5 = y5 ∧ x6 = y6 ∧ x7 = y7 ∧ x8 = y8 ∧ x9 = y9 ∧ x10 = y10 ∧ x11 = y11 ∧ x12 = y12 ∧ x13 = y13 ∧ x14 = y14 ∧ x15 = y15 ∧ x16 = y16 ∧ x17 = y17 ∧ x18 = y18 ∧ x19 = y19 ∧ x20 = y20 ∧ x21 = y21 ∧ x22 = y22 ∧ x23 = y23 ∧ x24 = y24 ∧ x25 = y25) := fun h => a1 ⟨h.1, h.2.1, h.2.2.1, h.2.2.2.1, h.2.2.2.2.1, h.2.2.2.2.2.1, h.2.2.2.2.2.2.1, h.2.2.2.2.2.2.2.2.2.2.2.2.2.1, h.2.2.2.2.2.2.2.2.2.2.2.2.2.2.1, h.2.2.2.2.2.2.2.2.2.2.2.2.2.2.2.1, h.2.2.2.2.2.2.2.2.2.2.2.2.2.2.2.2.2.1, h.2.2.2.2.2.2.2.2.2.2.2.2.2.2.2.2.2.2.1, h.2.2.2.2.2.2.2.2.2.2.2.2.2.2.2.2.2.2.2.2.2.2.1⟩
  simp only [decide_eq_false a1, decide_eq_false this, cond_false, Option.bind_some, Bool.false_and]
theorem iw_ (m : api_Msg) : (cp_ m).isSome = true := by
 unfold cp_
 repeat (first | rfl | refine cQ_ ?_ fun _ _ => ?_ | refine ci_ (fun _ => ?_) fun _ => ?_)
theorem nE_ (m : api_Msg) (h : m.small) : (ad_ m).isSome = true := by
 obtain ⟨_, h2, _, h4, h5⟩ := h
 unfold ad_
 rw [aQ_ _ h2, aR_ _ h4, aJ_ _ h5 h5.2.2.2.2.2.2.2.1]
 simp only [bH_, aK_, bz_, bu_, aZ_]
 repeat (first | rfl | refine ci_ (fun _ => ?_) fun _ => ?_ | (refine cQ_ (by rw [aj_ _ (by simp)]; rfl) fun _ _ => ?_) | refine cQ_ ?_ fun _ _ => ?_)
def Lt.b8 (k : Lt) : UInt8 := UInt8.ofNat k.byte
theorem Lt.b8_nat (k : Lt) : k.b8.toNat = k.byte := by cases k <;> rfl
def dT_ (l : List Lt) : Str := l.map Lt.b8
def cps (l : List Lt) (m' m : api_Msg) : api_Msg := l.foldl (fun a k => cpF k m' a) m
def bZ_ (k t : Int) : api_Msg := api_Msg.mk k t 0 0 0 0 0 [] [] [] [] [] (api_Qid.mk 0 0 0) 0 0 0 [] 0 0 [] (api_Dir.mk 0 0 (api_Qid.mk 0 0 0) 0 0 0 0 [] [] [] []) 0 0 0 []
def Lays (o : Option Str) : Prop := ∃ l : List Lt, o = some (dT_ l) ∧ l.Nodup ∧ l.length ≤ 100
theorem Lays.ite {c : Bool} {a b : Option Str} (h : Lays a) (h' : Lays b) : Lays (bif c then a else b) := by
 cases c with
 | true => exact h
 | false => exact h'
theorem Lays.bind {α : Type} {x : Option α} {f : α → Option Str} (h : x.isSome = true) (hf : ∀ a, Lays (f a)) : Lays (x.bind f) := by
 cases x with
 | none => cases h
 | some a => exact hf a
theorem lay_any (k : Int) : Lays (bx_ k) := by
 unfold bx_
 refine Lays.ite ⟨[.m, .v], rfl, by decide, by decide⟩ ?_
 refine Lays.ite ⟨[.m, .v, .s], rfl, by decide, by decide⟩ ?_
 refine Lays.ite ⟨[.a, .u, .x], rfl, by decide, by decide⟩ ?_
 refine Lays.bind (by repeat (first | rfl | refine ci_ (fun _ => ?_) fun _ => ?_)) fun _ => ?_
 refine Lays.ite ⟨[.q], rfl, by decide, by decide⟩ ?_
 refine Lays.ite ⟨[.f, .a, .u, .x], rfl, by decide, by decide⟩ ?_
 refine Lays.ite ⟨[.e], rfl, by decide, by decide⟩ ?_
 refine Lays.ite ⟨[.o], rfl, by decide, by decide⟩ ?_
 refine Lays.ite ⟨[.f, .n, .w], rfl, by decide, by decide⟩ ?_
 refine Lays.ite ⟨[.W], rfl, by decide, by decide⟩ ?_
 refine Lays.ite ⟨[.f, .M], rfl, by decide, by decide⟩ ?_
 refine Lays.bind (by repeat (first | rfl | refine ci_ (fun _ => ?_) fun _ => ?_)) fun _ => ?_
 refine Lays.ite ⟨[.q, .i], rfl, by decide, by decide⟩ ?_
 refine Lays.ite ⟨[.f, .N, .p, .M], rfl, by decide, by decide⟩ ?_
 refine Lays.ite ⟨[.f, .O, .c], rfl, by decide, by decide⟩ ?_
 refine Lays.ite ⟨[.d], rfl, by decide, by decide⟩ ?_
 refine Lays.ite ⟨[.f, .O, .d], rfl, by decide, by decide⟩ ?_
 refine Lays.ite ⟨[.c], rfl, by decide, by decide⟩ ?_
 refine Lays.bind (by repeat (first | rfl | refine ci_ (fun _ => ?_) fun _ => ?_)) fun _ => ?_
 refine Lays.ite ⟨[.f], rfl, by decide, by decide⟩ ?_
 refine Lays.ite ⟨[.S], rfl, by decide, by decide⟩ ?_
 refine Lays.ite ⟨[.f, .S], rfl, by decide, by decide⟩ ?_
 refine Lays.ite ⟨[.f, .l, .t], rfl, by decide, by decide⟩ ?_
 refine Lays.ite ⟨[.q, .l, .t], rfl, by decide, by decide⟩ ?_
 refine Lays.ite ⟨[.s], rfl, by decide, by decide⟩ ?_
 exact ⟨[], rfl, by decide, by decide⟩
theorem jm_ {k : Int} {t : Str} (h : bv_ k = some t) (ht : t ≠ []) : k = 100 ∨ k = 101 ∨ k = 102 ∨ k = 103 ∨ k = 104 ∨ k = 105 ∨ k = 107 ∨ k = 108 ∨ k = 109 ∨ k = 110 ∨ k = 111 ∨ k = 112 ∨ k = 113 ∨ k = 114 ∨ k = 115 ∨ k = 116 ∨ k = 117 ∨ k = 118 ∨ k = 119 ∨ k = 120 ∨ k = 121 ∨ k = 122 ∨ k = 123 ∨ k = 124 ∨ k = 125 ∨ k = 126 ∨ k = 127 ∨ k = 128 ∨ k = 129 ∨ k = 130 ∨ k = 131 := by
 unfold bv_ at h
 cases hc : (decide (k < 100) || decide (k > 131)) with
 | true => rw [hc] at h; exact absurd (Option.some.inj h).symm ht
 | false =>
  simp only [Bool.or_eq_false_iff, decide_eq_false_iff_not] at hc
  by_cases h6 : k = 106
  ·subst h6; exact absurd (Option.some.inj h).symm ht
  ·omega
theorem lM_ (m : api_Msg) {t : Str} (h : bv_ m.Kind_ = some t) (ht : t ≠ []) : ∃ l : List Lt, bx_ m.Kind_ = some (dT_ l) ∧ l.Nodup ∧ l.length ≤ 100 ∧ fH_ m = some (cps l m (bZ_ m.Kind_ m.Tag_)) := by
 have hk := jm_ h ht
 clear h ht
 obtain ⟨x1, x2, x3, x4, x5, x6, x7, x8, x9, x10, x11, x12, x13, x14, x15, x16, x17, x18, x19, x20, x21, x22, x23, x24, x25⟩ := m
 simp only at hk
 rcases hk with rfl | rfl | rfl | rfl | rfl | rfl | rfl | rfl | rfl | rfl | rfl | rfl | rfl | rfl | rfl | rfl | rfl | rfl | rfl | rfl | rfl | rfl | rfl | rfl | rfl | rfl | rfl | rfl | rfl | rfl | rfl
 ·exact ⟨[.m, .v], rfl, by decide, by decide, rfl⟩
 ·exact ⟨[.m, .v, .s], rfl, by decide, by decide, rfl⟩
 ·exact ⟨[.a, .u, .x], rfl, by decide, by decide, rfl⟩
 ·exact ⟨[.q], rfl, by decide, by decide, rfl⟩
 ·exact ⟨[.f, .a, .u, .x], rfl, by decide, by decide, rfl⟩
 ·exact ⟨[.q], rfl, by decide, by decide, rfl⟩
 ·exact ⟨[.e], rfl, by decide, by decide, rfl⟩
 ·exact ⟨[.o], rfl, by decide, by decide, rfl⟩
 ·exact ⟨[], rfl, by decide, by decide, rfl⟩
 ·exact ⟨[.f, .n, .w], rfl, by decide, by decide, rfl⟩
 ·exact ⟨[.W], rfl, by decide, by decide, rfl⟩
 ·exact ⟨[.f, .M], rfl, by decide, by decide, rfl⟩
 ·exact ⟨[.q, .i], rfl, by decide, by decide, rfl⟩
 ·exact ⟨[.f, .N, .p, .M], rfl, by decide, by decide, rfl⟩
 ·exact ⟨[.q, .i], rfl, by decide, by decide, rfl⟩
 ·exact ⟨[.f, .O, .c], rfl, by decide, by decide, rfl⟩
 ·exact ⟨[.d], rfl, by decide, by decide, rfl⟩
 ·exact ⟨[.f, .O, .d], rfl, by decide, by decide, rfl⟩
 ·exact ⟨[.c], rfl, by decide, by decide, rfl⟩
 ·exact ⟨[.f], rfl, by decide, by decide, rfl⟩
 ·exact ⟨[], rfl, by decide, by decide, rfl⟩
 ·exact ⟨[.f], rfl, by decide, by decide, rfl⟩
 ·exact ⟨[], rfl, by decide, by decide, rfl⟩
 ·exact ⟨[.f], rfl, by decide, by decide, rfl⟩
 ·exact ⟨[.S], rfl, by decide, by decide, rfl⟩
 ·exact ⟨[.f, .S], rfl, by decide, by decide, rfl⟩
 ·exact ⟨[], rfl, by decide, by decide, rfl⟩
 ·exact ⟨[.f, .l, .t], rfl, by decide, by decide, rfl⟩
 ·exact ⟨[.q, .l, .t], rfl, by decide, by decide, rfl⟩
 ·exact ⟨[.s], rfl, by decide, by decide, rfl⟩
 ·exact ⟨[], rfl, by decide, by decide, rfl⟩
theorem ks_ {m' : api_Msg} : ∀ (l : List Lt) {m : api_Msg}, m'.Names_.length ≤ 9223372036854775807 → m'.Qids_.length ≤ 9223372036854775807 → m.Names_.length ≤ 9223372036854775807 → m.Qids_.length ≤ 9223372036854775807 → (cps l m' m).Names_.length ≤ 9223372036854775807 ∧ (cps l m' m).Qids_.length ≤ 9223372036854775807
 | [], _, _, _, h3, h4 => ⟨h3, h4⟩
 | k :: l, m, h1, h2, h3, h4 => by
  show (cps l m' (cpF k m' m)).Names_.length ≤ _ ∧ _
  refine ks_ l h1 h2 ?_ ?_
  ·cases k <;> first | exact h3 | exact h1
  ·cases k <;> first | exact h4 | exact h2
theorem hF_ (m : api_Msg) (h : m.small) : ∃ c, bh_ m = some c := by
 apply Option.get_some
 unfold bh_
 refine cQ_ (eJ_ _) fun t ht => ci_ (fun _ => rfl) fun hn => ?_
 obtain ⟨l, _, _, _, ho⟩ := lM_ m ht (by simp at hn; exact hn)
 refine cQ_ (iw_ m) fun _ _ => ci_ (fun _ => rfl) fun _ => cQ_ (by rw [ho]; rfl) fun x hx => ?_
 have hx' : x.Names_.length ≤ 9223372036854775807 ∧ x.Qids_.length ≤ 9223372036854775807 := by
  rw [ho] at hx
  cases hx
  exact ks_ l h.1 h.2.2.1 (by simp [bZ_]) (by simp [bZ_])
 refine cQ_ (by rw [same_eq x m hx'.1 hx'.2]; rfl) fun _ _ => ci_ (fun _ => rfl) fun _ => cQ_ (nE_ m h) fun _ _ => rfl
end Go.Proofs.YtolgkhjkdadhiaaGreat
namespace Go.Proofs.YtolgkhjkdadhiaaGreat
open Go.Rt Go.RowKit
theorem wadd (w t : Str) (e : Int) (h : w.length + t.length ≤ 9223372036854775807) : cJ_ ⟨w, 0⟩ t e = some ⟨w ++ t, e⟩ := by
 unfold cJ_
 exact ac_ rfl (aa_ (cY_ h) rfl)
theorem mF_ {n : Int} {k : Nat} {t : Str} (h : bI_ n k = some t) : bF_ n k = true ∧ t = leB n k := by
 unfold bI_ at h
 cases hf : bF_ n k with
 | true => rw [hf] at h; exact ⟨rfl, (Option.some.inj h).symm⟩
 | false => rw [hf] at h; cases h
theorem eE_ {w : Str} {n : Int} {k : Nat} {t : Str} (h1 : 1 ≤ k) (h8 : k ≤ 8) (he : bI_ n k = some t) (h : w.length + t.length ≤ 9223372036854775807) : av_ ⟨w, 0⟩ n (k : Int) = some ⟨w ++ t, 0⟩ := by
 obtain ⟨a, rfl⟩ := mF_ he
 unfold av_
 refine aa_ (iY_ n k h1 h8) ?_
 rw [if_pos a]
 exact aa_ (wadd w _ 0 h) rfl
theorem iN_ {s t : Str} (h : cE_ s = some t) : s.length ≤ 65535 ∧ t = dl_ s := by
 unfold cE_ at h
 split at h
 ·exact ⟨‹_›, (Option.some.inj h).symm⟩
 ·cases h
theorem wtext {w s t : Str} (he : cE_ s = some t) (h : w.length + t.length ≤ 9223372036854775807) : bJ_ ⟨w, 0⟩ s = some ⟨w ++ t, 0⟩ := by
 obtain ⟨a, rfl⟩ := iN_ he
 unfold bJ_
 exact aa_ (text_put s a) (aa_ (wadd w _ 0 h) rfl)
theorem mG_ {q : api_Qid} {t : Str} (h : ek_ q = some t) : bF_ q.Type_ 1 = true ∧ bF_ q.Vers_ 4 = true ∧ bF_ q.Path_ 8 = true ∧ t = leB q.Type_ 1 ++ leB q.Vers_ 4 ++ leB q.Path_ 8 := by
 unfold ek_ at h
 split at h
 ·rename_i hc
  simp only [Bool.and_eq_true] at hc
  exact ⟨hc.1.1, hc.1.2, hc.2, (Option.some.inj h).symm⟩
 ·cases h
theorem wqid {w : Str} {q : api_Qid} {t : Str} (he : ek_ q = some t) (h : w.length + t.length ≤ 9223372036854775807) : d4_ ⟨w, 0⟩ q = some ⟨w ++ t, 0⟩ := by
 obtain ⟨a, b, c, rfl⟩ := mG_ he
 simp only [List.length_append] at h
 unfold d4_
 refine aa_ (eE_ (k := 1) (t := leB q.Type_ 1) (by omega) (by omega) (by unfold bI_; rw [if_pos a]) (by omega)) ?_
 refine aa_ (eE_ (k := 4) (t := leB q.Vers_ 4) (by omega) (by omega) (by unfold bI_; rw [if_pos b]) (by simp only [List.length_append]; omega)) ?_
 refine aa_ (eE_ (k := 8) (t := leB q.Path_ 8) (by omega) (by omega) (by unfold bI_; rw [if_pos c]) (by simp only [List.length_append]; omega)) ?_
 simp only [List.append_assoc]
theorem hc_ {α : Type} {f : α → Option Str} {x : α} {l : List α} {t : Str} (h : cw_ f (x :: l) = some t) : ∃ a b, f x = some a ∧ cw_ f l = some b ∧ t = a ++ b := by
 unfold cw_ at h
 cases hx : f x with
 | none => rw [hx] at h; cases h
 | some a =>
  cases hl : cw_ f l with
  | none => rw [hx, hl] at h; cases h
  | some b => rw [hx, hl] at h; exact ⟨a, b, rfl, rfl, (Option.some.inj h).symm⟩
theorem nF_ (l : List Str) (hl : l.length ≤ 65535) : ∀ (k fuel i : Nat) (w t : Str), i + k = l.length → k < fuel → cw_ cE_ (l.drop i) = some t → w.length + t.length ≤ 9223372036854775807 → am_ (dw_ l) fuel ((i : Int), ⟨w, 0⟩) = some ⟨w ++ t, 0⟩
 | 0, fuel + 1, i, w, t, hi, _, he, _ => by
  rw [show l.drop i = [] from List.drop_eq_nil_of_le (by omega)] at he
  cases he
  refine ap_ ?_
  unfold dw_
  exact ab_ (by simp; omega) (by simp)
 | k + 1, fuel + 1, i, w, t, hi, hk, he, h => by
  have hlt : i < l.length := by omega
  rw [List.drop_eq_getElem_cons hlt] at he
  obtain ⟨a, b, h1, h2, rfl⟩ := hc_ he
  simp only [List.length_append] at h
  have ih := nF_ l hl k fuel (i + 1) (w ++ a) b (by omega) (by omega) h2 (by simp only [List.length_append]; omega)
  rw [List.append_assoc] at ih
  refine ay_ ?_ ih
  unfold dw_
  refine ac_ (by simp; omega) (aa_ (au_ hlt) (aa_ (wtext h1 (by omega)) ?_))
  rw [an_ (n := (i : Int) + 1) ⟨by omega, by omega⟩]; rfl
theorem pe_ (l : List api_Qid) (hl : l.length ≤ 65535) : ∀ (k fuel i : Nat) (w t : Str), i + k = l.length → k < fuel → cw_ ek_ (l.drop i) = some t → w.length + t.length ≤ 9223372036854775807 → am_ (dP_ l) fuel ((i : Int), ⟨w, 0⟩) = some ⟨w ++ t, 0⟩
 | 0, fuel + 1, i, w, t, hi, _, he, _ => by
  rw [show l.drop i = [] from List.drop_eq_nil_of_le (by omega)] at he
  cases he
  refine ap_ ?_
  unfold dP_
  exact ab_ (by simp; omega) (by simp)
 | k + 1, fuel + 1, i, w, t, hi, hk, he, h => by
  have hlt : i < l.length := by omega
  rw [List.drop_eq_getElem_cons hlt] at he
  obtain ⟨a, b, h1, h2, rfl⟩ := hc_ he
  simp only [List.length_append] at h
  have ih := pe_ l hl k fuel (i + 1) (w ++ a) b (by omega) (by omega) h2 (by simp only [List.length_append]; omega)
  rw [List.append_assoc] at ih
  refine ay_ ?_ ih
  unfold dP_
  refine ac_ (by simp; omega) (aa_ (au_ hlt) (aa_ (wqid h1 (by omega)) ?_))
  rw [an_ (n := (i : Int) + 1) ⟨by omega, by omega⟩]; rfl
theorem eK_ {α : Type} {f : α → Option Str} {l : List α} {t : Str} (h : encL f l = some t) : l.length ≤ 65535 ∧ ∃ b, cw_ f l = some b ∧ t = leB (l.length : Int) 2 ++ b := by
 unfold encL at h
 split at h
 ·rename_i hc
  refine ⟨hc, ?_⟩
  cases hl : cw_ f l with
  | none => rw [hl] at h; cases h
  | some b => rw [hl] at h; exact ⟨b, rfl, (Option.some.inj h).symm⟩
 ·cases h
theorem k3_ (n : Nat) (h : n ≤ 65535) : bI_ (n : Int) 2 = some (leB (n : Int) 2) := by
 have : bF_ (n : Int) 2 = true := by
  unfold bF_
  simp only [Bool.and_eq_true, Bool.or_eq_true, decide_eq_true_eq]
  exact ⟨by omega, .inr (by omega)⟩
 unfold bI_; rw [if_pos this]
theorem wnames {w : Str} {l : List Str} {t : Str} (he : encL cE_ l = some t) (h : w.length + t.length ≤ 9223372036854775807) : eq_ ⟨w, 0⟩ l = some ⟨w ++ t, 0⟩ := by
 obtain ⟨hl, b, h1, rfl⟩ := eK_ he
 simp only [List.length_append] at h
 unfold eq_
 have hB : BIG = 18446744073709551616 := rfl
 refine aa_ (eE_ (k := 2) (by omega) (by omega) (k3_ _ hl) (by omega)) ?_
 refine aa_ (nF_ l hl l.length BIG 0 _ b (by omega) (by omega) h1 (by simp only [List.length_append]; omega)) ?_
 simp only [List.append_assoc]
theorem wqids {w : Str} {l : List api_Qid} {t : Str} (he : encL ek_ l = some t) (h : w.length + t.length ≤ 9223372036854775807) : eQ_ ⟨w, 0⟩ l = some ⟨w ++ t, 0⟩ := by
 obtain ⟨hl, b, h1, rfl⟩ := eK_ he
 simp only [List.length_append] at h
 unfold eQ_
 have hB : BIG = 18446744073709551616 := rfl
 refine aa_ (eE_ (k := 2) (by omega) (by omega) (k3_ _ hl) (by omega)) ?_
 refine aa_ (pe_ l hl l.length BIG 0 _ b (by omega) (by omega) h1 (by simp only [List.length_append]; omega)) ?_
 simp only [List.append_assoc]
theorem mH_ {s t : Str} {k : Nat} (h : encD s k = some t) : bF_ (s.length : Int) k = true ∧ t = leB (s.length : Int) k ++ s := by
 unfold encD at h
 split at h
 ·exact ⟨‹_›, (Option.some.inj h).symm⟩
 ·cases h
theorem wdata {w s t : Str} {k : Nat} (h1 : 1 ≤ k) (h8 : k ≤ 8) (he : encD s k = some t) (h : w.length + t.length ≤ 9223372036854775807) : dK_ ⟨w, 0⟩ s (k : Int) = some ⟨w ++ t, 0⟩ := by
 obtain ⟨a, rfl⟩ := mH_ he
 simp only [List.length_append] at h
 unfold dK_
 refine aa_ (eE_ (t := leB (s.length : Int) k) h1 h8 (by unfold bI_; rw [if_pos a]) (by omega)) (aa_ (wadd _ _ 0 (by simp only [List.length_append]; omega)) ?_)
 simp only [List.append_assoc]
theorem ia_ {n m : Int} (h : dM_ n m = true) (hm : m ≤ 9223372036854775807) : InK .i64 n := by
 unfold dM_ at h
 simp only [Bool.or_eq_true, Bool.and_eq_true, beq_iff_eq, decide_eq_true_eq] at h
 exact ⟨by show -9223372036854775808 ≤ n; omega, by show n ≤ 9223372036854775807; omega⟩
theorem andI_le (x : Int) (m : Nat) (hm : m < 2 ^ 63) (h0 : 0 ≤ x) (h : andI .i64 x (m : Int) = x) : x ≤ (m : Int) := by
 have hx : x ≤ 9223372036854775807 := by
  have hw : ∀ n : Int, IntKind.i64.wrap n ≤ 9223372036854775807 := by
   intro n
   simp only [IntKind.wrap, IntKind.bits, IntKind.signed]
   simp
   split <;> omega
  have hx : andI .i64 x (m : Int) ≤ 9223372036854775807 := hw _
  rw [h] at hx
  exact hx
 have := k2_ x m hm hx (by unfold cA_; simp only [Bool.or_eq_true, Bool.and_eq_true, beq_iff_eq, decide_eq_true_eq]; exact .inr ⟨h0, h⟩)
 unfold dM_ at this
 simp only [Bool.or_eq_true, Bool.and_eq_true, beq_iff_eq, decide_eq_true_eq] at this
 omega
theorem okBits_in {x : Int} {m : Nat} (hm : m < 2 ^ 63) (h : cA_ x (m : Int) = true) : InK .i64 x := by
 unfold cA_ at h
 simp only [Bool.or_eq_true, Bool.and_eq_true, beq_iff_eq, decide_eq_true_eq] at h
 rcases h with h | ⟨h0, h⟩
 ·exact ⟨by show -9223372036854775808 ≤ x; omega, by show x ≤ 9223372036854775807; omega⟩
 ·have := andI_le x m hm h0 h
  exact ⟨by show -9223372036854775808 ≤ x; omega, by show x ≤ 9223372036854775807; omega⟩
theorem mI_ {d : api_Dir} (h : bd_ d = 0) : d.ok := by
 obtain ⟨h1, h2⟩ := ej_ d h
 obtain ⟨l1, l2, l3, l4⟩ := hb_ d h2
 unfold cm_ at h1
 simp only [Bool.and_eq_true] at h1
 obtain ⟨⟨⟨⟨⟨⟨⟨⟨a, b⟩, c⟩, e⟩, f⟩, g⟩, i⟩, j⟩, k⟩ := h1
 exact ⟨ia_ a (by omega), ia_ b (by omega), ⟨okBits_in (m := 232) (by omega) c, ia_ e (by omega), ia_ f (by omega)⟩, okBits_in (m := 3892314623) (by omega) g, ia_ i (by omega), ia_ j (by omega), ia_ k (by omega), by omega, by omega, by omega, by omega⟩
theorem kt_ {d : api_Dir} {t : Str} (h : encS d = some t) : bd_ d = 0 ∧ t = leB ((bL_ d).length : Int) 2 ++ bL_ d := by
 unfold encS at h
 split at h
 ·exact ⟨‹_›, (Option.some.inj h).symm⟩
 ·cases h
theorem wstat {w : Str} {d : api_Dir} {t : Str} (he : encS d = some t) (h : w.length + t.length ≤ 9223372036854775807) : eR_ ⟨w, 0⟩ d = some ⟨w ++ t, 0⟩ := by
 obtain ⟨a, rfl⟩ := kt_ he
 have hok := mI_ a
 obtain ⟨l1, l2, l3, l4⟩ := hb_ d (ej_ d a).2
 have hlen := n5_ d
 unfold eR_
 refine aa_ (put_eq d hok hok.2.2.2.2.2.2.2.1) ?_
 unfold putR
 rw [if_pos a]
 refine aa_ (wadd w [] 0 (by simp only [List.length_append] at h; simp; omega)) (aa_ (wdata (k := 2) (t := leB ((bL_ d).length : Int) 2 ++ bL_ d) (by omega) (by omega) ?_ ?_) ?_)
 ·unfold encD
  rw [if_pos]
  unfold bF_
  simp only [Bool.and_eq_true, Bool.or_eq_true, decide_eq_true_eq]
  exact ⟨by omega, .inr (by omega)⟩
 ·simpa using h
 ·simp
theorem wfield (k : Lt) (m : api_Msg) (w t : Str) (he : encF k m = some t) (h : w.length + t.length ≤ 9223372036854775807) : er_ ⟨w, 0⟩ m (k.byte : Int) = some ⟨w ++ t, 0⟩ := by
 unfold er_
 cases k with
 | m => exact aa_ (eE_ (k := 4) (by omega) (by omega) he h) rfl
 | v => exact aa_ (wtext he h) rfl
 | s => exact aa_ (wtext he h) rfl
 | a => exact aa_ (eE_ (k := 4) (by omega) (by omega) he h) rfl
 | u => exact aa_ (wtext he h) rfl
 | x => exact aa_ (wtext he h) rfl
 | q => exact aa_ (wqid he h) rfl
 | f => exact aa_ (eE_ (k := 4) (by omega) (by omega) he h) rfl
 | e => exact aa_ (hC_ m.Err_) (aa_ (wtext he h) rfl)
 | o => exact aa_ (eE_ (k := 2) (by omega) (by omega) he h) rfl
 | n => exact aa_ (eE_ (k := 4) (by omega) (by omega) he h) rfl
 | w => exact aa_ (wnames he h) rfl
 | W => exact aa_ (wqids he h) rfl
 | M => exact aa_ (eE_ (k := 1) (by omega) (by omega) he h) rfl
 | i => exact aa_ (eE_ (k := 4) (by omega) (by omega) he h) rfl
 | N => exact aa_ (wtext he h) rfl
 | p => exact aa_ (eE_ (k := 4) (by omega) (by omega) he h) rfl
 | O => exact aa_ (eE_ (k := 8) (by omega) (by omega) he h) rfl
 | c => exact aa_ (eE_ (k := 4) (by omega) (by omega) he h) rfl
 | d => exact aa_ (wdata (k := 4) (by omega) (by omega) he h) rfl
 | S => exact aa_ (wstat he h) rfl
 | l => exact aa_ (eE_ (k := 1) (by omega) (by omega) he h) rfl
 | t => exact aa_ (eE_ (k := 4) (by omega) (by omega) he h) rfl
end Go.Proofs.YtolgkhjkdadhiaaGreat
