/-
  Arguments opened to plain data: values and slices of integers, bools, strings and structs of these. No program in sight.
-/
import Derived.Test.YtboplmpnjepdnaaGreatGo2
import Derived.Deep.Slices
import Derived.ChangeSame
import Derived.ProofKit
namespace Go
namespace Rt
open Go.RowKit Go.ChangeShapes Go.WideShapes Go.Deep

/-! ### Cells -/
inductive CK where
  | int (k : IntKind)
  | bool
  | str
def InK (k : IntKind) (n : Int) : Prop := k.min ≤ n ∧ n ≤ k.max
abbrev I64 (n : Int) : Prop := -9223372036854775808 ≤ n ∧ n ≤ 9223372036854775807
theorem InK.i64 {n : Int} (h : InK .i64 n) : I64 n := h
def CellsOK : List CK → List Value → Prop
  | [], cs => cs = []
  | .int k :: ks, cs => ∃ n rest, cs = .int k n :: rest ∧ InK k n ∧ CellsOK ks rest
  | .bool :: ks, cs => ∃ b rest, cs = .bool b :: rest ∧ CellsOK ks rest
  | .str :: ks, cs => ∃ (s : Str) (rest : List Value), cs = S s :: rest ∧ s.length ≤ 9223372036854775807 ∧ CellsOK ks rest
theorem CellsOK.append : ∀ {ks ks' : List CK} {cs cs' : List Value}, CellsOK ks cs → CellsOK ks' cs' → CellsOK (ks ++ ks') (cs ++ cs')
  | [], ks', cs, cs', h, h' => by
    obtain rfl : cs = [] := h
    exact h'
  | .int k :: ks, ks', cs, cs', h, h' => by
    obtain ⟨n, rest, rfl, hn, h⟩ := h
    exact ⟨n, rest ++ cs', rfl, hn, h.append h'⟩
  | .bool :: ks, ks', cs, cs', h, h' => by
    obtain ⟨n, rest, rfl, h⟩ := h
    exact ⟨n, rest ++ cs', rfl, h.append h'⟩
  | .str :: ks, ks', cs, cs', h, h' => by
    obtain ⟨n, rest, rfl, hn, h⟩ := h
    exact ⟨n, rest ++ cs', rfl, hn, h.append h'⟩
theorem CellsOK.len : ∀ {ks : List CK} {cs : List Value}, CellsOK ks cs → cs.length = ks.length
  | [], cs, h => by
    obtain rfl : cs = [] := h
    rfl
  | .int k :: ks, cs, h => by
    obtain ⟨n, rest, rfl, hn, h⟩ := h
    simp [h.len]
  | .bool :: ks, cs, h => by
    obtain ⟨n, rest, rfl, h⟩ := h
    simp [h.len]
  | .str :: ks, cs, h => by
    obtain ⟨n, rest, rfl, hn, h⟩ := h
    simp [h.len]
def fieldKinds (P : Program) (f : TypeId → Option (List CK)) (total : Nat) : Nat → List Field → Option (List CK)
  | off, [] => match Nat.beq off total with | true => some [] | false => none
  | off, g :: gs => match Nat.beq g.offset off, f g.type, fieldKinds P f total (off + P.cellsOf g.type) gs with
    | true, some a, some b => some (a ++ b)
    | _, _, _ => none
/-- The kinds of the cells of a type of plain data. -/
def kindsOf (P : Program) : Nat → TypeId → Option (List CK)
  | 0, _ => none
  | n + 1, t => match P.underlying t with
    | some (.int k) => some [.int k]
    | some .bool => some [.bool]
    | some .string => some [.str]
    | some (.struct fs) => fieldKinds P (kindsOf P n) (P.cellsOf t) 0 fs.toList
    | _ => none
section
variable {H : Type} {enc : TypeId × Value → H} {P : Program} {w : World} {base : Nat} {spare : Nat → Bool} {held : Bool}
theorem fields_plain {f : TypeId → Option (List CK)} {total m : Nat} (hf : ∀ t ks cs (x : DataW H × List MemPlace), f t = some ks → DataW.trod enc P w base spare held m t cs = some x → CellsOK ks cs ∧ x.2 = []) {cs : List Value} (hcs : cs.length = total) :
    ∀ {gs : List Field} {off : Nat} {ks : List CK} {xs : List (DataW H × List MemPlace)}, fieldKinds P f total off gs = some ks → off ≤ total → xs.length = gs.length →
      (∀ (i : Nat) (g : Field), gs[i]? = some g → DataW.trod enc P w base spare held m g.type ((cs.drop g.offset).take (P.cellsOf g.type)) = xs[i]?) → CellsOK ks (cs.drop off) ∧ xs.flatMap (·.2) = []
  | [], off, ks, xs, h, _, hl, _ => by
    simp only [fieldKinds] at h
    split at h
    · rename_i hb
      obtain rfl : off = total := Nat.eq_of_beq_eq_true hb
      simp only [Option.some.injEq] at h
      subst h
      obtain rfl : xs = [] := List.eq_nil_of_length_eq_zero hl
      refine ⟨?_, rfl⟩
      show cs.drop off = []
      exact List.drop_eq_nil_of_le (by omega)
    · cases h
  | g :: gs, off, ks, xs, h, ho, hl, ht => by
    simp only [fieldKinds] at h
    split at h
    · rename_i a b hb ha hr
      obtain rfl : g.offset = off := Nat.eq_of_beq_eq_true hb
      simp only [Option.some.injEq] at h
      subst h
      cases xs with
      | nil => simp at hl
      | cons x xs =>
        have h0 := ht 0 g rfl
        simp only [List.getElem?_cons_zero] at h0
        obtain ⟨hc, hx⟩ := hf _ _ _ _ ha h0
        have hle : g.offset + P.cellsOf g.type ≤ total := by
          by_cases hlt : g.offset + P.cellsOf g.type ≤ total
          · exact hlt
          · exfalso
            clear ht h0 hc hx
            have key : ∀ (gs : List Field) (off : Nat) (ks : List CK), total < off → fieldKinds P f total off gs = some ks → False := by
              intro gs
              induction gs with
              | nil =>
                intro off ks ho h
                simp only [fieldKinds] at h
                split at h
                · rename_i hb; have := Nat.eq_of_beq_eq_true hb; omega
                · cases h
              | cons g gs ih =>
                intro off ks ho h
                simp only [fieldKinds] at h
                split at h
                · rename_i hr; exact ih _ _ (by omega) hr
                · cases h
            exact key _ _ _ (by omega) hr
        obtain ⟨hr', hxs⟩ := fields_plain hf hcs hr hle (by simpa using hl) (fun i g' hg => by simpa using ht (i + 1) g' (by simpa using hg))
        refine ⟨?_, by simp [List.flatMap_cons, hx, hxs]⟩
        have hsplit : cs.drop g.offset = (cs.drop g.offset).take (P.cellsOf g.type) ++ cs.drop (g.offset + P.cellsOf g.type) := by
          rw [← List.drop_drop, List.take_append_drop]
        rw [hsplit]
        exact hc.append hr'
    · cases h
theorem trod_plain : ∀ {n fuel : Nat} {t : TypeId} {ks : List CK} {cs : List Value} {x : DataW H × List MemPlace}, kindsOf P n t = some ks → DataW.trod enc P w base spare held fuel t cs = some x → CellsOK ks cs ∧ x.2 = []
  | 0, fuel, t, ks, cs, x, h, _ => by cases h
  | n + 1, fuel, t, ks, cs, x, h, hd => by
    simp only [kindsOf] at h
    split at h
    · rename_i k hu
      simp only [Option.some.injEq] at h; subst h
      obtain ⟨m, rfl, rfl, hw⟩ := DataW.trod_int hu hd
      refine ⟨⟨m, [], rfl, ?_, rfl⟩, rfl⟩
      simpa [Lit.wf, InK] using hw
    · rename_i hu
      simp only [Option.some.injEq] at h; subst h
      obtain ⟨b, rfl, rfl⟩ := DataW.trod_bool hu hd
      exact ⟨⟨b, [], rfl, rfl⟩, rfl⟩
    · rename_i hu
      simp only [Option.some.injEq] at h; subst h
      obtain ⟨s, rfl, rfl, hs⟩ := DataW.trod_string hu hd
      refine ⟨⟨s.data.toList, [], rfl, ?_, rfl⟩, rfl⟩
      have : s.data.toList.length = s.size := by rw [Array.length_toList]; rfl
      rw [this]; exact hs
    · rename_i fs hu
      obtain ⟨xs, m, _, rfl, hcl, hxl, hf⟩ := DataW.trod_struct hu hd
      have := fields_plain (fun t ks cs x hk ht => trod_plain (n := n) hk ht) hcl h (Nat.zero_le _) (by simpa using hxl) (fun i g hg => hf i g (by simpa using hg))
      simpa using this
    · cases h
def structB (P : Program) (t : TypeId) : Bool := match P.underlying t with
  | some (.struct _) => true
  | _ => false
theorem structB_some {t : TypeId} (h : structB P t = true) : ∃ fs, P.underlying t = some (.struct fs) := by
  unfold structB at h
  split at h
  · rename_i fs hu; exact ⟨fs, hu⟩
  · cases h
/-- A struct of plain data. -/
theorem open_plain {r : Reach} {b0 n : Nat} {t : TypeId} {ks : List CK} {v : Value} {d : DataW H} {ps : List MemPlace} (hsb : structB P t = true) (hk : kindsOf P n t = some ks) (hv : Value.okWide P w r b0 t v) (h : DataW.Trod enc P w base spare held t v d ps) :
    ∃ cs : List Value, v = .agg cs.toArray ∧ CellsOK ks cs := by
  obtain ⟨fs, hs⟩ := structB_some hsb
  obtain ⟨cs, rfl, _⟩ := okWide_struct hs hv
  obtain ⟨fuel, hf⟩ := h
  obtain ⟨hc, _⟩ := trod_plain hk hf
  exact ⟨cs.toList, by rw [Array.toArray_toList], hc⟩
/-- The blocks of a slice that has come in. -/
def argF (A : Option Addr) (n : Nat) (k : Nat) : Prop := 0 < n ∧ ∃ a, A = some a ∧ k = a.block
/-- A slice of plain data. -/
theorem open_rows {r : Reach} {b0 n c : Nat} {t e : TypeId} {ks : List CK} {v : Value} {d : DataW H} {ps : List MemPlace} (ht : P.underlying t = some (.slice e)) (hk : kindsOf P n e = some ks) (hC : P.cellsOf e = c) (hc : 0 < c)
    (hv : Value.okWide P w r b0 t v) (h : DataW.Trod enc P w 0 (fun _ => true) held t v d ps) (hlt : ∀ x ∈ ps, x.block < w.heap.size) :
    ∃ (A : Option Addr) (len cap : Nat) (rows : List (List Value)), v = .slice A len cap ∧ rows.length = len ∧ (∀ r ∈ rows, CellsOK ks r) ∧ In (argF A len) c A len cap rows w ∧ len ≤ 9223372036854775807 := by
  obtain ⟨A0, len0, cap0, rfl⟩ := okWide_slice ht hv
  obtain ⟨fuel, hf⟩ := h
  rcases open_slice ht hf with ⟨hcs, hx⟩ | ⟨a, len, cap, m, q, D, Pl, hcs, _, hl, hm, hmm, hx, hi⟩
  · simp [Value.cells] at hcs
    obtain ⟨rfl, rfl, rfl⟩ := hcs
    exact ⟨none, 0, 0, [], rfl, rfl, (fun _ h => nomatch h), ⟨⟨SlF.nil _ _ _ _, Nat.le_refl _⟩, fun k hk => absurd hk.1 (by omega)⟩, by omega⟩
  · simp [Value.cells] at hcs
    obtain ⟨rfl, rfl, rfl⟩ := hcs
    simp only [if_true] at hmm
    have hrow : ∀ i, i < len0 → ∃ cs', w.cells? 0 (a.add (i * c)) c = some cs' ∧ CellsOK ks cs' := fun i hi' => by
      obtain ⟨cs', h1, h2⟩ := hi i (by omega)
      rw [hC] at h1
      exact ⟨cs', h1, (trod_plain hk h2).1⟩
    let row : Nat → List Value := fun i => (w.cells? 0 (a.add (i * c)) c).getD []
    have hrow' : ∀ i, i < len0 → w.cells? 0 (a.add (i * c)) c = some (row i) ∧ CellsOK ks (row i) := fun i hi' => by
      obtain ⟨cs', h1, h2⟩ := hrow i hi'
      simp only [row, h1, Option.getD_some]
      exact ⟨trivial, h2⟩
    refine ⟨some a, len0, cap0, (List.range len0).map row, rfl, by simp, fun r hr => ?_, ⟨⟨⟨by simp, fun hn => ?_⟩, hl⟩, fun k hk => ?_⟩, ?_⟩
    · obtain ⟨i, hi', rfl⟩ := List.mem_map.1 hr
      exact (hrow' i (by simpa using hi')).2
    · obtain ⟨b, off, spot⟩ := a
      have g0 := (World.cells?_some (hrow' 0 hn).1).2
      have hg := g0.2 0 hc
      obtain ⟨c0, hc0⟩ : ∃ c0, (row 0)[0]? = some c0 := ⟨(row 0)[0]'(by rw [g0.1]; exact hc), List.getElem?_eq_getElem _⟩
      rw [hc0] at hg
      have hspot : spot = none := by simpa [Addr.add] using World.cell?_spot hg
      subst hspot
      refine ⟨b, off, rfl, ⟨hn, _, rfl, rfl⟩, fun i r hr => ?_⟩
      rw [List.getElem?_map] at hr
      by_cases hi' : i < len0
      · rw [List.getElem?_range hi'] at hr
        simp only [Option.map_some, Option.some.injEq] at hr
        subst hr
        obtain ⟨_, h2, h3⟩ := World.cells?_some (hrow' i hi').1
        refine ⟨h2, fun j u hu => ?_⟩
        have hj : j < c := by rw [← h2]; exact (List.getElem?_eq_some_iff.1 hu).1
        have := h3 j hj
        rw [Addr.add_mk, Addr.add_mk] at this
        rw [this]; exact hu
      · rw [List.getElem?_eq_none (by simp; omega)] at hr
        cases hr
    · obtain ⟨hn, a', ha, rfl⟩ := hk
      simp only [Option.some.injEq] at ha
      subst ha
      have hp : (x : DataW H × List MemPlace) → True := fun _ => trivial
      simp only [Prod.mk.injEq] at hx
      obtain ⟨_, rfl⟩ := hx
      have h1 := (World.cells?_some (hrow' 0 hn).1).2
      have hg := h1.2 0 hc
      obtain ⟨c0, hc0⟩ : ∃ c0, (row 0)[0]? = some c0 := ⟨(row 0)[0]'(by rw [h1.1]; exact hc), List.getElem?_eq_getElem _⟩
      rw [hc0] at hg
      have hb : ((a.add (0 * c)).add 0).block = a.block := by unfold Addr.add; split <;> (try rfl) <;> (split <;> rfl)
      unfold World.cell? at hg
      split at hg
      · rename_i heap _ _ hh
        rw [hb] at hh
        rcases Nat.lt_or_ge a.block w.heap.size with h' | h'
        · exact h'
        · rw [Array.getElem?_eq_none h'] at hh; cases hh
      · cases hg
    · unfold maxLen at hm; omega
theorem eI_decode (k : IntKind) (r : List Value) (h : CellsOK [.int k] r) : ∃ x, r = eI k x ∧ InK k x := by
  obtain ⟨n, _, rfl, hn, rfl⟩ := h
  exact ⟨n, rfl, hn⟩
theorem eB_decode (r : List Value) (h : CellsOK [.bool] r) : ∃ x, r = eB x ∧ True := by
  obtain ⟨n, _, rfl, rfl⟩ := h
  exact ⟨n, rfl, trivial⟩
theorem eS_decode (r : List Value) (h : CellsOK [.str] r) : ∃ x : Str, r = eS x ∧ x.length ≤ 9223372036854775807 := by
  obtain ⟨n, _, rfl, hn, rfl⟩ := h
  exact ⟨n, rfl, hn⟩
/-- Rows, as plain data. -/
theorem rows_plain {α : Type} {ks : List CK} {f : α → List Value} {ok : α → Prop} (hf : ∀ r, CellsOK ks r → ∃ x, r = f x ∧ ok x) : ∀ {rows : List (List Value)}, (∀ r ∈ rows, CellsOK ks r) → ∃ xs : List α, rows = xs.map f ∧ ∀ x ∈ xs, ok x
  | [], _ => ⟨[], rfl, (fun _ h => nomatch h)⟩
  | r :: rows, h => by
    obtain ⟨x, rfl, hx⟩ := hf r (h r (by simp))
    obtain ⟨xs, rfl, hxs⟩ := rows_plain hf (fun r hr => h r (List.mem_cons_of_mem _ hr))
    exact ⟨x :: xs, rfl, fun y hy => by
      rcases List.mem_cons.1 hy with rfl | hy
      · exact hx
      · exact hxs y hy⟩
end
end Rt
end Go
