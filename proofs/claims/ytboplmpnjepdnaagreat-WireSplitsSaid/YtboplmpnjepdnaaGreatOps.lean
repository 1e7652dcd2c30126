/-
  One law for each kind of operation, for the walks that a program writes; and the functions on plain data that they compute. No program in sight.
-/
import Derived.Test.YtboplmpnjepdnaaGreatRt
namespace Go
namespace Rt
open Go.RowKit

/-! ### Plain data -/
abbrev Str := List UInt8
def S (l : Str) : Value := .string ⟨l.toArray⟩
def w64 (n : Int) : Int := IntKind.i64.wrap n
def cat (a b : Str) : Option Str := if a.length + b.length ≤ 9223372036854775807 then some (a ++ b) else none
def getI {α : Type} (xs : List α) (i : Int) : Option α := if 0 ≤ i then xs[i.toNat]? else none
def setI {α : Type} (xs : List α) (i : Int) (x : α) : Option (List α) := if 0 ≤ i ∧ i < xs.length then some (xs.set i.toNat x) else none
def byteI (s : Str) (i : Int) : Option Int := (getI s i).map fun b => (b.toNat : Int)
def subI {α : Type} (xs : List α) (lo hi : Int) : Option (List α) := if 0 ≤ lo ∧ lo ≤ hi ∧ hi ≤ xs.length then some ((xs.take hi.toNat).drop lo.toNat) else none
def quoI (k : IntKind) (x y : Int) : Option Int := if y = 0 then none else some (k.wrap (x.tdiv y))
def remI (x y : Int) : Option Int := if y = 0 then none else some (x.tmod y)
def shlI (k : IntKind) (x y : Int) : Option Int := if y < 0 then none else some (k.wrap (x * 2 ^ min y.toNat k.bits))
def shrI (k : IntKind) (x y : Int) : Option Int := if y < 0 then none else some (x.fdiv (2 ^ min y.toNat k.bits))
def bytesS (ns : List Int) : Str := ns.map fun n => UInt8.ofNat n.toNat
def room {α : Type} (bytes : Nat) (xs ys : List α) : Option (List α) := if xs.length + ys.length ≤ 9223372036854775807 ∧ (xs.length + ys.length) * bytes ≤ 140737488355328 then some (xs ++ ys) else none
def makeI {α : Type} (bytes : Nat) (z : α) (n : Int) : Option (List α) := if 0 ≤ n ∧ n ≤ 9223372036854775807 ∧ bytes * n ≤ 281474976710656 then some (List.replicate n.toNat z) else none

theorem bind_some {α β : Type} {x : Option α} {f : α → Option β} {r : β} (h : x.bind f = some r) : ∃ a, x = some a ∧ f a = some r := by
  cases x with
  | none => cases h
  | some a => exact ⟨a, rfl, h⟩
theorem if_t {α : Type} {c : Bool} {A B : Option α} {r : α} (h : (bif c then A else B) = some r) (hc : c = true) : A = some r := by subst hc; exact h
theorem if_f {α : Type} {c : Bool} {A B : Option α} {r : α} (h : (bif c then A else B) = some r) (hc : c = false) : B = some r := by subst hc; exact h

theorem str_eta (s : ByteArray) : S s.data.toList = .string s := rfl
theorem str_eq (a b : Str) : ((⟨a.toArray⟩ : ByteArray).toList == (⟨b.toArray⟩ : ByteArray).toList) = (a == b) := by
  rw [ByteArray.toList_mk, ByteArray.toList_mk]

section
variable {P : Program} {ρ : Operand → Value} {w : World} {o : Oper}

/-! ### Strings -/
theorem size_mk (l : Str) : (⟨l.toArray⟩ : ByteArray).size = l.length := by simp [ByteArray.size]
theorem append_mk (a b : Str) : ((⟨a.toArray⟩ : ByteArray) ++ ⟨b.toArray⟩ : ByteArray) = ⟨(a ++ b).toArray⟩ := by
  apply ByteArray.ext
  simp
theorem run_cat {t yt : TypeId} {x y : Operand} (ho : o.op = .binOp .add t x y yt) {a b r : Str} (hx : ρ x = S a) (hy : ρ y = S b) (h : cat a b = some r) :
    (execOp ρ o).run P w = .ok (.value (S r)) w := by
  unfold cat at h
  split at h
  · rename_i hl
    simp only [Option.some.injEq] at h
    subst h
    unfold execOp
    simp only [ho, hx, hy, S]
    have e2 : ¬ ((((⟨a.toArray⟩ : ByteArray).size + (⟨b.toArray⟩ : ByteArray).size : Nat) : Int) > IntKind.i64.max) := by
      rw [size_mk, size_mk]
      show ¬ (((a.length + b.length : Nat) : Int) > 9223372036854775807)
      omega
    simp only [eqGuard, binOp, Op.stringOp]
    rw [if_neg e2, append_mk]
    rfl
  · cases h
theorem run_str_eql {t yt : TypeId} {x y : Operand} (ho : o.op = .binOp .eql t x y yt) {a b : Str} (hx : ρ x = S a) (hy : ρ y = S b) :
    (execOp ρ o).run P w = .ok (.value (.bool (a == b))) w := by
  unfold execOp
  simp only [ho, hx, hy, S]
  simp only [eqGuard, binOp, Op.stringOp, str_eq]
  rfl
theorem run_str_neq {t yt : TypeId} {x y : Operand} (ho : o.op = .binOp .neq t x y yt) {a b : Str} (hx : ρ x = S a) (hy : ρ y = S b) :
    (execOp ρ o).run P w = .ok (.value (.bool (!(a == b)))) w := by
  unfold execOp
  simp only [ho, hx, hy, S]
  simp only [eqGuard, binOp, Op.stringOp, str_eq]
  rfl
theorem run_str_lss {t yt : TypeId} {x y : Operand} (ho : o.op = .binOp .lss t x y yt) {a b : Str} (hx : ρ x = S a) (hy : ρ y = S b) :
    (execOp ρ o).run P w = .ok (.value (.bool (Op.bytesLess a b))) w := by
  unfold execOp
  simp only [ho, hx, hy, S]
  simp only [eqGuard, binOp, Op.stringOp, ByteArray.toList_mk]
  rfl
theorem run_str_gtr {t yt : TypeId} {x y : Operand} (ho : o.op = .binOp .gtr t x y yt) {a b : Str} (hx : ρ x = S a) (hy : ρ y = S b) :
    (execOp ρ o).run P w = .ok (.value (.bool (!(Op.bytesLess a b || a == b)))) w := by
  unfold execOp
  simp only [ho, hx, hy, S]
  simp only [eqGuard, binOp, Op.stringOp, ByteArray.toList_mk]
  rfl
theorem run_byteI {t : TypeId} {x i : Operand} (ho : o.op = .index t x i) (ht : P.underlying t = some .string) {a : Str} {k : IntKind} {n r : Int} (hx : ρ x = S a) (hi : ρ i = .int k n) (h : byteI a n = some r) :
    (execOp ρ o).run P w = .ok (.value (.int .u8 r)) w := by
  unfold byteI getI at h
  split at h
  · rename_i hn
    cases hg : a[n.toNat]? with
    | none => rw [hg] at h; cases h
    | some b =>
      rw [hg] at h
      simp only [Option.map_some, Option.some.injEq] at h
      subst h
      have e : (⟨a.toArray⟩ : ByteArray)[n.toNat]? = some b := by
        have hlt := (List.getElem?_eq_some_iff.1 hg).1
        have hb := (List.getElem?_eq_some_iff.1 hg).2
        have h1 : n.toNat < (⟨a.toArray⟩ : ByteArray).size := by rw [size_mk]; exact hlt
        have h2 : (⟨a.toArray⟩ : ByteArray)[n.toNat]'h1 = b := by
          show a.toArray[n.toNat] = b
          simpa using hb
        rw [← h2]
        exact getElem?_pos (⟨a.toArray⟩ : ByteArray) n.toNat h1
      unfold execOp
      simp only [ho, hx, hi, S]
      simp [Instr.index, asIntOf, run_underlying ht, hn, e]
  · cases h
theorem run_bound {k : IntKind} {i : Int} {y : Nat} {code : BoundsCode} (h0 : 0 ≤ i) (h1 : i ≤ y) : (Instr.sliceBound (.int k i) y code).run P w = .ok i.toNat w := by
  simp [Instr.sliceBound, asIntOf, h0, h1]
theorem extract_mk (a : Str) (l h : Nat) (hl : l ≤ h) : (⟨a.toArray⟩ : ByteArray).extract l h = ⟨((a.take h).drop l).toArray⟩ := by
  apply ByteArray.ext
  rw [ByteArray.data_extract]
  simp [List.take_drop]
  rw [show l + (h - l) = h by omega]
/-- The bounds of a cut, each given or not. -/
theorem subI_some {α : Type} {xs r : List α} {lo hi : Int} (h : subI xs lo hi = some r) : 0 ≤ lo ∧ lo ≤ hi ∧ hi ≤ xs.length ∧ r = (xs.take hi.toNat).drop lo.toNat := by
  unfold subI at h
  split at h
  · rename_i hc; simp only [Option.some.injEq] at h; exact ⟨hc.1, hc.2.1, hc.2.2, h.symm⟩
  · cases h
theorem run_bounds (isS : Bool) {k1 k2 : IntKind} {lo hi : Int} {n cap : Nat} (h0 : 0 ≤ lo) (h1 : lo ≤ hi) (h2 : hi ≤ cap) :
    (Instr.sliceBounds isS n cap (some (.int k1 lo)) (some (.int k2 hi)) none).run P w = .ok (lo.toNat, hi.toNat, cap) w := by
  simp only [Instr.sliceBounds, Sem.run_bind, Sem.run_pure, Result.andThen_ok, run_bound (P := P) (w := w) (i := hi) (y := cap) (by omega) h2,
    run_bound (P := P) (w := w) (i := lo) (y := hi.toNat) h0 (by omega)]
theorem run_bounds_lo (isS : Bool) {k1 : IntKind} {lo : Int} {n cap : Nat} (h0 : 0 ≤ lo) (h1 : lo ≤ n) :
    (Instr.sliceBounds isS n cap (some (.int k1 lo)) none none).run P w = .ok (lo.toNat, n, cap) w := by
  simp only [Instr.sliceBounds, Sem.run_bind, Sem.run_pure, Result.andThen_ok, run_bound (P := P) (w := w) (i := lo) (y := n) h0 h1]
theorem run_bounds_hi (isS : Bool) {k2 : IntKind} {hi : Int} {n cap : Nat} (h0 : 0 ≤ hi) (h2 : hi ≤ cap) :
    (Instr.sliceBounds isS n cap none (some (.int k2 hi)) none).run P w = .ok (0, hi.toNat, cap) w := by
  simp only [Instr.sliceBounds, Sem.run_bind, Sem.run_pure, Result.andThen_ok, run_bound (P := P) (w := w) (i := hi) (y := cap) h0 h2]
theorem run_bounds_none (isS : Bool) {n cap : Nat} :
    (Instr.sliceBounds isS n cap none none none).run P w = .ok (0, n, cap) w := by
  simp only [Instr.sliceBounds, Sem.run_bind, Sem.run_pure, Result.andThen_ok]
/-- What the bounds' operands hold. -/
def boundIs (ρ : Operand → Value) : Option Operand → Option Int → Prop
  | none, none => True
  | some x, some n => ∃ k, ρ x = .int k n
  | _, _ => False
theorem run_bounds_any (isS : Bool) {lo hi : Option Operand} {l h : Option Int} {n cap : Nat} (hl : boundIs ρ lo l) (hh : boundIs ρ hi h) (h0 : 0 ≤ l.getD 0) (h1 : l.getD 0 ≤ h.getD n) (h2 : h.getD n ≤ cap) :
    (Instr.sliceBounds isS n cap (lo.map ρ) (hi.map ρ) none).run P w = .ok ((l.getD 0).toNat, (h.getD n).toNat, cap) w := by
  cases lo <;> cases l <;> cases hi <;> cases h <;> simp only [boundIs] at hl hh <;> simp only [Option.getD_some, Option.getD_none] at h0 h1 h2 ⊢
  · exact run_bounds_none isS
  · obtain ⟨k, e⟩ := hh; simp only [Option.map_none, Option.map_some, e]; exact run_bounds_hi isS h1 h2
  · obtain ⟨k, e⟩ := hl; simp only [Option.map_none, Option.map_some, e]; exact run_bounds_lo isS h0 h1
  · obtain ⟨k, e⟩ := hl; obtain ⟨k', e'⟩ := hh; simp only [Option.map_some, e, e']; exact run_bounds isS h0 h1 h2
theorem run_str_sub {t : TypeId} {x : Operand} {lo hi : Option Operand} (ho : o.op = .slice t x lo hi none) (ht : P.underlying t = some .string) {a r : Str} (hx : ρ x = S a) {l h : Option Int} (hl : boundIs ρ lo l) (hh : boundIs ρ hi h)
    (hr : subI a (l.getD 0) (h.getD a.length) = some r) : (execOp ρ o).run P w = .ok (.value (S r)) w := by
  obtain ⟨h0, h1, h2, rfl⟩ := subI_some hr
  unfold execOp
  have hb := run_bounds_any (P := P) (w := w) false (n := a.length) (cap := a.length) hl hh h0 h1 h2
  simp only [ho, hx, S, Option.map_none]
  simp [Instr.sliceAt, Instr.slice, run_underlying ht, size_mk, hb, extract_mk a _ _ (show (l.getD 0).toNat ≤ (h.getD a.length).toNat by omega)]

/-! ### Numbers -/
theorem run_quo {t yt : TypeId} {x y : Operand} {k : IntKind} {a b r : Int} (ho : o.op = .binOp .quo t x y yt) (hx : ρ x = .int k a) (hy : ρ y = .int k b) (h : quoI k a b = some r) : (execOp ρ o).run P w = .ok (.value (.int k r)) w := by
  unfold quoI at h
  split at h
  · cases h
  · rename_i hb; simp only [Option.some.injEq] at h; subst h
    unfold execOp
    simp [ho, hx, hy, eqGuard, binOp, Op.intDiv, hb]
theorem run_rem {t yt : TypeId} {x y : Operand} {k : IntKind} {a b r : Int} (ho : o.op = .binOp .rem t x y yt) (hx : ρ x = .int k a) (hy : ρ y = .int k b) (h : remI a b = some r) : (execOp ρ o).run P w = .ok (.value (.int k r)) w := by
  unfold remI at h
  split at h
  · cases h
  · rename_i hb; simp only [Option.some.injEq] at h; subst h
    unfold execOp
    simp [ho, hx, hy, eqGuard, binOp, Op.intDiv, hb]
theorem run_shl {t yt : TypeId} {x y : Operand} {k k' : IntKind} {a b r : Int} (ho : o.op = .binOp .shl t x y yt) (hx : ρ x = .int k a) (hy : ρ y = .int k' b) (h : shlI k a b = some r) : (execOp ρ o).run P w = .ok (.value (.int k r)) w := by
  unfold shlI at h
  split at h
  · cases h
  · rename_i hb; simp only [Option.some.injEq] at h; subst h
    unfold execOp
    simp [ho, hx, hy, eqGuard, binOp, Op.shift, hb]
theorem run_shr {t yt : TypeId} {x y : Operand} {k k' : IntKind} {a b r : Int} (ho : o.op = .binOp .shr t x y yt) (hx : ρ x = .int k a) (hy : ρ y = .int k' b) (h : shrI k a b = some r) : (execOp ρ o).run P w = .ok (.value (.int k r)) w := by
  unfold shrI at h
  split at h
  · cases h
  · rename_i hb; simp only [Option.some.injEq] at h; subst h
    unfold execOp
    simp [ho, hx, hy, eqGuard, binOp, Op.shift, hb]
end

/-! ### Variables of the call's own -/
def aggB (P : Program) (T : TypeId) : Option Bool := match P.underlying T with | some (.struct _) => some true | some (.array _ _) => some true | some _ => some false | none => none
/-- What a load of a T at offset off reads in cells. -/
def loadVal (P : Program) (T : TypeId) (cs : List Value) (off : Nat) : Option Value :=
  match aggB P T, (P.info? T).map (·.size) with
  | some true, some n => match Nat.ble (off + n) cs.length with | true => some (.agg ((cs.drop off).take n).toArray) | false => none
  | some false, _ => cs[off]?
  | _, _ => none
def splice (cs : List Value) (off : Nat) (vs : List Value) : List Value := cs.take off ++ vs ++ cs.drop (off + vs.length)
def cellB : Value → Bool
  | .agg _ | .tuple _ => false
  | _ => true
def allCells : List Value → Bool
  | [] => true
  | v :: r => cellB v && allCells r
section
variable {P : Program} {ρ : Operand → Value} {w w0 : World} {o : Oper} {Bs : List Nat} {L : List Res}
theorem aggB_run {T : TypeId} {b : Bool} (h : aggB P T = some b) : (isAgg T).run P w = .ok b w := by
  unfold aggB at h
  cases hu : P.underlying T with
  | none => rw [hu] at h; cases h
  | some d =>
    rw [hu] at h
    unfold isAgg
    rw [Sem.run_bind, run_underlying hu w]
    cases d <;> simp_all
/-- A load, given the cells. -/
theorem run_loadVal {T : TypeId} {b off base : Nat} {cs : List Value} {v : Value} (hv : loadVal P T cs off = some v) (hc : ∀ j u, cs[j]? = some u → w.cell? ⟨b, base + j, none⟩ = some u) :
    (loadVar T ⟨b, base + off, none⟩).run P w = .ok v w := by
  unfold loadVal at hv
  cases hag : aggB P T with
  | none => rw [hag] at hv; cases hv
  | some g =>
    rw [hag] at hv
    cases g with
    | true =>
      cases hi : (P.info? T).map (·.size) with
      | none => rw [hi] at hv; cases hv
      | some n =>
        rw [hi] at hv
        simp only at hv
        split at hv
        · rename_i hle
          simp only [Option.some.injEq] at hv
          subst hv
          have hle' : off + n ≤ cs.length := by simpa using hle
          have hlen : ((cs.drop off).take n).length = n := by simp; omega
          have hl : (loadCells ⟨b, base + off, none⟩ ((cs.drop off).take n).length).run P w = .ok ((cs.drop off).take n).toArray w :=
            run_loadCells_list (P := P) w _ _ (fun j u hu => by
              rw [Addr.add_mk, Nat.add_assoc]
              refine hc _ _ ?_
              rw [List.getElem?_take] at hu
              split at hu
              · rw [List.getElem?_drop] at hu; exact hu
              · cases hu)
          rw [hlen] at hl
          cases hq : P.info? T with
          | none => simp [hq] at hi
          | some i =>
            have hs : i.size = n := by simpa [hq] using hi
            simp [loadVar, Sem.run_bind, aggB_run hag, sizeOf, typeInfo, hq, hs, hl]
        · cases hv
    | false =>
      simp only at hv
      have := hc _ _ hv
      simp [loadVar, Sem.run_bind, aggB_run hag, this]
theorem run_load {T : TypeId} {x : Operand} {ad : Addr} {v : Value} (ho : o.op = .load T x) (hx : ρ x = .pointer (some ad)) (hr : (loadVar T ad).run P w = .ok v w) : (execOp ρ o).run P w = .ok (.value v) w := by
  unfold execOp
  simp [ho, hx, Instr.loadAt, Instr.sureAddr, hr]
theorem Sep.box_cell {i b : Nat} {T : TypeId} {cs : List Value} (h : Sep Bs w0 w L) (hi : L[i]? = some (.box b T cs)) : ∀ j u, cs[j]? = some u → w.cell? ⟨b, 0 + j, none⟩ = some u := by
  intro j u hu
  have := h.hold _ (List.mem_of_getElem? hi)
  rw [Nat.zero_add, cell_of_row w b j cs.toArray T (0, 0) this]
  simpa using hu
/-- Reading a variable of the call's own. -/
theorem run_load_box {T T' : TypeId} {x : Operand} {i b off : Nat} {cs : List Value} {v : Value} (ho : o.op = .load T x) (hx : ρ x = .pointer (some ⟨b, off, none⟩)) (h : Sep Bs w0 w L) (hi : L[i]? = some (.box b T' cs))
    (hv : loadVal P T cs off = some v) : (execOp ρ o).run P w = .ok (.value v) w := by
  have := run_loadVal (base := 0) hv (h.box_cell hi)
  rw [Nat.zero_add] at this
  exact run_load ho hx this
end
end Rt
end Go
