/-
  Maps in the model: what looking up and writing do to a block. No program in sight.
-/
import Derived.Test.YtboplmpnjepdnaaGreatGo2
import Derived.MapKept
namespace Go
namespace Rt
open Go.RowKit

/-! ### Maps as two lists -/
def idxK {α : Type} (eq : α → α → Bool) (x : α) : List α → Option Nat
  | [] => none
  | y :: ys => match eq x y with
    | true => some 0
    | false => match idxK eq x ys with
      | some i => some (i + 1)
      | none => none
def mgetD {α β : Type} (eq : α → α → Bool) : List α → List β → α → β → β
  | y :: ys, v :: vs, x, d => bif eq x y then v else mgetD eq ys vs x d
  | _, _, _, d => d
def mputK {α : Type} (eq : α → α → Bool) (ks : List α) (x : α) : List α := bif ks.any (eq x) then ks else ks ++ [x]
def mputV {α β : Type} (eq : α → α → Bool) : List α → List β → α → β → List β
  | y :: ys, v' :: vs, x, v => bif eq x y then v :: vs else v' :: mputV eq ys vs x v
  | _, vs, _, v => vs ++ [v]
section
variable {α β : Type} {eq : α → α → Bool}
theorem idxK_none {x : α} : ∀ {ks : List α}, idxK eq x ks = none → ks.any (eq x) = false
  | [], _ => rfl
  | y :: ys, h => by
    simp only [idxK] at h
    cases he : eq x y with
    | true => rw [he] at h; cases h
    | false =>
      rw [he] at h
      cases hi : idxK eq x ys with
      | some i => rw [hi] at h; cases h
      | none => rw [List.any_cons, he, idxK_none hi]; rfl
theorem idxK_some {x : α} : ∀ {ks : List α} {i : Nat}, idxK eq x ks = some i → ks.any (eq x) = true ∧ ∃ y, ks[i]? = some y ∧ eq x y = true
  | [], _, h => by cases h
  | y :: ys, i, h => by
    simp only [idxK] at h
    cases he : eq x y with
    | true => rw [he] at h; obtain rfl := Option.some.inj h; exact ⟨by rw [List.any_cons, he]; rfl, y, rfl, he⟩
    | false =>
      rw [he] at h
      cases hi : idxK eq x ys with
      | none => rw [hi] at h; cases h
      | some j =>
        rw [hi] at h
        obtain rfl := Option.some.inj h
        obtain ⟨h1, z, h2, h3⟩ := idxK_some hi
        exact ⟨by rw [List.any_cons, h1, Bool.or_true], z, by simpa using h2, h3⟩
theorem mgetD_none {x : α} {d : β} : ∀ {ks : List α} {vs : List β}, idxK eq x ks = none → mgetD eq ks vs x d = d
  | [], vs, _ => by cases vs <;> rfl
  | y :: ys, [], _ => rfl
  | y :: ys, v :: vs, h => by
    simp only [idxK] at h
    cases he : eq x y with
    | true => rw [he] at h; cases h
    | false =>
      rw [he] at h
      cases hi : idxK eq x ys with
      | some i => rw [hi] at h; cases h
      | none => simp only [mgetD, he, cond_false]; exact mgetD_none hi
theorem mgetD_some {x : α} {d : β} : ∀ {ks : List α} {vs : List β} {i : Nat} {v : β}, idxK eq x ks = some i → vs[i]? = some v → mgetD eq ks vs x d = v
  | [], _, _, _, h, _ => by cases h
  | y :: ys, [], _, _, _, h => by simp at h
  | y :: ys, u :: vs, i, v, h, hv => by
    simp only [idxK] at h
    cases he : eq x y with
    | true =>
      rw [he] at h; obtain rfl := Option.some.inj h
      simp only [mgetD, he, cond_true]
      simpa using hv
    | false =>
      rw [he] at h
      cases hi : idxK eq x ys with
      | none => rw [hi] at h; cases h
      | some j =>
        rw [hi] at h
        obtain rfl := Option.some.inj h
        simp only [mgetD, he, cond_false]
        exact mgetD_some hi (by simpa using hv)
theorem mputV_none {x : α} {v : β} : ∀ {ks : List α} {vs : List β}, idxK eq x ks = none → ks.length = vs.length → mputV eq ks vs x v = vs ++ [v]
  | [], vs, _, _ => by cases vs <;> rfl
  | y :: ys, [], _, h => by cases h
  | y :: ys, u :: vs, h, hl => by
    simp only [idxK] at h
    cases he : eq x y with
    | true => rw [he] at h; cases h
    | false =>
      rw [he] at h
      cases hi : idxK eq x ys with
      | some i => rw [hi] at h; cases h
      | none => simp only [mputV, he, cond_false, List.cons_append]; rw [mputV_none hi (by simpa using hl)]
theorem mputV_some {x : α} {v : β} : ∀ {ks : List α} {vs : List β} {i : Nat}, idxK eq x ks = some i → ks.length = vs.length → mputV eq ks vs x v = vs.set i v
  | [], _, _, h, _ => by cases h
  | y :: ys, [], _, _, h => by cases h
  | y :: ys, u :: vs, i, h, hl => by
    simp only [idxK] at h
    cases he : eq x y with
    | true =>
      rw [he] at h; obtain rfl := Option.some.inj h
      simp only [mputV, he, cond_true, List.set_cons_zero]
    | false =>
      rw [he] at h
      cases hi : idxK eq x ys with
      | none => rw [hi] at h; cases h
      | some j =>
        rw [hi] at h
        obtain rfl := Option.some.inj h
        simp only [mputV, he, cond_false, List.set_cons_succ]
        rw [mputV_some hi (by simpa using hl)]
end
/-! ### The model's operations -/
section
variable {P : Program} {w : World} {b K E T : TypeId} {es : Array MapEntry} {clock : Nat}
def setMap (w : World) (b : Nat) (es : Array MapEntry) (clock : Nat) : World := { w with heap := w.heap.setIfInBounds b (.map es clock) }
theorem setMap_same (hb : b < w.heap.size) : (setMap w b es clock).heap[b]? = some (.map es clock) := by
  simp [setMap, hb]
theorem setMap_other {k : Nat} (h : k ≠ b) : (setMap w b es clock).heap[k]? = w.heap[k]? := by
  simp [setMap, Ne.symm h]
theorem setMap_grow : Grow w (setMap w b es clock) := ⟨rfl, rfl, rfl, by simp [setMap]⟩
/-- What a key is found at. -/
def foundAt (es : Array MapEntry) : Option Nat → Option (Nat × Value)
  | some i => (es[i]?).map fun e => (i, e.val)
  | none => none
def gotV (es : Array MapEntry) (z : Value) : Option Nat → Value
  | some i => ((es[i]?).map (·.val)).getD z
  | none => z
theorem run_makeMap (w : World) (t : TypeId) : (Instr.makeMap t none).run P w = .ok (.map (some w.heap.size)) (w.alloc (.map #[] 0)) := by
  rfl
theorem run_lookup {kv z : Value} {ix : Option Nat} (hu : P.underlying T = some (.map K E)) (hb : w.heap[b]? = some (.map es clock)) (hc : ∀ b w, (Instr.checkKey b 10000 K kv).run P w = .ok () w) (hf : (Instr.findKey K kv es.toList).run P w = .ok (foundAt es ix) w)
    (hz : (zeroValue E).run P w = .ok z w) (hi : ∀ i, ix = some i → i < es.size) : (Instr.lookup T (.map (some b)) kv false).run P w = .ok (gotV es z ix) w := by
  cases ix with
  | none => simp [Instr.lookup, run_underlying hu, MapKept.run_getObj_map hb, hc, hf, foundAt, hz, gotV, Result.andThen]
  | some i =>
    have h := hi i rfl
    simp [Instr.lookup, run_underlying hu, MapKept.run_getObj_map hb, hc, hf, foundAt, h, gotV, Result.andThen]
theorem run_update_new {kv x : Value} (hu : P.underlying T = some (.map K E)) (hb : w.heap[b]? = some (.map es clock)) (hc : ∀ b w, (Instr.checkKey b 10000 K kv).run P w = .ok () w) (hf : (Instr.findKey K kv es.toList).run P w = .ok none w) :
    (Instr.mapUpdate T (.map (some b)) kv x).run P w = .ok () (setMap w b (es.push ⟨kv, x, clock⟩) (clock + 1)) := by
  simp [Instr.mapUpdate, run_underlying hu, MapKept.run_getObj_map hb, hc, hf, Result.andThen, MapKept.run_setObj_map _ hb, setMap]
theorem run_update_old {kv x : Value} {i : Nat} {e : MapEntry} (hu : P.underlying T = some (.map K E)) (hb : w.heap[b]? = some (.map es clock)) (hc : ∀ b w, (Instr.checkKey b 10000 K kv).run P w = .ok () w) (hf : (Instr.findKey K kv es.toList).run P w = .ok (some (i, e.val)) w) (he : es[i]? = some e) (hk : e.key = kv) (hs : Instr.sameBits 10000 kv kv = true) :
    (Instr.mapUpdate T (.map (some b)) kv x).run P w = .ok () (setMap w b (es.modify i fun e => { e with key := kv, val := x }) clock) := by
  have hst : (Instr.keyThatStays kv kv).run P w = .ok kv w := by simp [Instr.keyThatStays, hs]
  subst hk
  simp [Instr.mapUpdate, run_underlying hu, MapKept.run_getObj_map hb, hc, hf, Result.andThen, he, hst, MapKept.run_setObj_map _ hb, setMap]
theorem run_entry_new {kv z : Value} (hu : P.underlying T = some (.map K E)) (hb : w.heap[b]? = some (.map es clock)) (hc : ∀ b w, (Instr.checkKey b 10000 K kv).run P w = .ok () w) (hf : (Instr.findKey K kv es.toList).run P w = .ok none w) (hz : (zeroValue E).run P w = .ok z w) :
    (Instr.mapEntry T (.map (some b)) kv).run P w = .ok (.tuple #[z, .int .i64 (clock : Int)]) (setMap w b (es.push ⟨kv, z, clock⟩) (clock + 1)) := by
  simp [Instr.mapEntry, run_underlying hu, MapKept.run_getObj_map hb, hc, hf, hz, goInt, Result.andThen, MapKept.run_setObj_map _ hb, setMap]
theorem run_entry_old {kv : Value} {i : Nat} {e : MapEntry} (hu : P.underlying T = some (.map K E)) (hb : w.heap[b]? = some (.map es clock)) (hc : ∀ b w, (Instr.checkKey b 10000 K kv).run P w = .ok () w) (hf : (Instr.findKey K kv es.toList).run P w = .ok (some (i, e.val)) w) (he : es[i]? = some e) (hk : e.key = kv) (hs : Instr.sameBits 10000 kv kv = true) :
    (Instr.mapEntry T (.map (some b)) kv).run P w = .ok (.tuple #[e.val, .int .i64 (e.born : Int)]) (setMap w b (es.modify i fun e => { e with key := kv }) clock) := by
  have hst : (Instr.keyThatStays kv kv).run P w = .ok kv w := by simp [Instr.keyThatStays, hs]
  subst hk
  simp [Instr.mapEntry, run_underlying hu, MapKept.run_getObj_map hb, hc, hf, Result.andThen, he, hst, goInt, MapKept.run_setObj_map _ hb, setMap]
theorem findIdx_born : ∀ {l : List MapEntry} {i : Nat} {e : MapEntry}, (l.map (·.born)).Nodup → l[i]? = some e → l.findIdx? (fun x => (x.born : Int) == (e.born : Int)) = some i
  | [], _, _, _, h => by simp at h
  | x :: l, 0, e, _, h => by
    simp at h; subst h
    simp [List.findIdx?_cons]
  | x :: l, i + 1, e, hn, h => by
    simp only [List.map_cons, List.nodup_cons] at hn
    have h' : l[i]? = some e := by simpa using h
    have hne : x.born ≠ e.born := fun hc => hn.1 (by rw [hc]; exact List.mem_map.2 ⟨e, List.mem_of_getElem? h', rfl⟩)
    have hb : ((x.born : Int) == (e.born : Int)) = false := by rw [beq_eq_false_iff_ne]; intro hc; exact hne (by omega)
    rw [List.findIdx?_cons, hb, findIdx_born hn.2 h']
    rfl
theorem run_entryStore {x : Value} {i : Nat} {e : MapEntry} (hb : w.heap[b]? = some (.map es clock)) (hn : (es.toList.map (·.born)).Nodup) (he : es.toList[i]? = some e) :
    (Instr.entryStore T (.map (some b)) (.int .i64 (e.born : Int)) x).run P w = .ok () (setMap w b (es.modify i fun e => { e with val := x }) clock) := by
  have h1 := findIdx_born hn he
  have h2 : es.findIdx? (fun x => (x.born : Int) == (e.born : Int)) = some i := by
    rw [← h1, ← List.findIdx?_toArray]
  have h3 : (asInt (.int .i64 (e.born : Int))).run P w = .ok (e.born : Int) w := rfl
  simp only [Instr.entryStore, Sem.run_bind, MapKept.run_getObj_map hb, Result.andThen_ok, h3, h2, MapKept.run_setObj_map _ hb, setMap]
end
end Rt
end Go
