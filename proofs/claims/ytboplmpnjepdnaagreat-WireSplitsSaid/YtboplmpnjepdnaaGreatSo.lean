/-
  The second engine: arguments that come in, opened to plain data; the law of a function of plain arguments. No program in sight.
-/
import Derived.Test.YtboplmpnjepdnaaGreatSn
import Derived.Test.YtboplmpnjepdnaaGreatOpen
import Derived.OpenShut
namespace Go
namespace Rt
open Go.RowKit Go.ChangeShapes Go.WideShapes Go.Deep

/-! ### What is known of the cells of data that come in -/
def FitL {S : Nat → Type} (f : (t : Ty) → Den S t → Prop) : (ts : List Ty) → HL S ts → Prop
  | [], _ => True
  | t :: ts, h => f t h.1 ∧ FitL f ts h.2
def FitC (E : TE) : Nat → (t : Ty) → Den E.S t → Prop
  | _, .int k, x => InK k x
  | _, .bool, _ => True
  | _, .str, s => s.length ≤ 9223372036854775807
  | 0, .sl _, xs => xs.length ≤ 9223372036854775807
  | k + 1, .sl e, xs => xs.length ≤ 9223372036854775807 ∧ ∀ x ∈ xs, FitL (FitC E k) (E.flat e) (E.fl e x)
  | _, .st _, _ => True
def Fit (E : TE) (t : Ty) (x : Den E.S t) : Prop := ∀ k, FitL (FitC E k) (E.flat t) (E.fl t x)
theorem FitL.app {S : Nat → Type} {f : (t : Ty) → Den S t → Prop} : ∀ {ts us : List Ty} {h : HL S ts} {k : HL S us}, FitL f ts h → FitL f us k → FitL f (ts ++ us) (hap h k)
  | [], _, _, _, _, h2 => h2
  | _ :: _, _, _, _, h1, h2 => ⟨h1.1, h1.2.app h2⟩
section
variable {E : TE} {z : Fz}
theorem RD.app : ∀ {ts us : List Ty} {h : HL E.S ts} {k : HL E.S us} {vs ws : List Value}, RD E z ts h vs → RD E z us k ws → RD E z (ts ++ us) (hap h k) (vs ++ ws)
  | [], _, _, _, _, _, h1, h2 => by rw [h1.nil_inv]; exact h2
  | t :: ts, us, h, k, vs, ws, h1, h2 => by
    obtain ⟨v, vs', rfl, h3, h4⟩ := h1.uncons
    exact RD.cons h3 (h4.app h2)
/-! ### Types of the program as types of data -/
def prefB (ts us : List Ty) : Bool := decide (us.take ts.length = ts)
theorem prefB_eq {ts us : List Ty} (h : prefB ts us = true) : us = ts ++ us.drop ts.length := by
  unfold prefB at h
  have h1 := of_decide_eq_true h
  have h2 := List.take_append_drop ts.length us
  rw [h1] at h2
  exact h2.symm
def fieldsTy (P : Program) (E : TE) (f : TypeId → Ty → Bool) (total : Nat) : Nat → List Field → List Ty → Bool
  | off, [], ts => Nat.beq off total && ts.isEmpty
  | off, g :: gs, ts => match E.ty g.type with
    | some t => Nat.beq g.offset off && (f g.type t && (prefB (E.flat t) ts && fieldsTy P E f total (off + P.cellsOf g.type) gs (ts.drop (E.flat t).length)))
    | none => false
def arrTy (E : TE) (t : Ty) : Nat → List Ty → Bool
  | 0, ts => ts.isEmpty
  | n + 1, ts => prefB (E.flat t) ts && arrTy E t n (ts.drop (E.flat t).length)
def tyOK (P : Program) (E : TE) : Nat → TypeId → Ty → Bool
  | 0, _, _ => false
  | n + 1, T, t => match P.underlying T, t with
    | some (.int k), .int k' => decide (k = k')
    | some .bool, .bool => true
    | some .string, .str => true
    | some (.slice e), .sl t => tyOK P E n e t && Nat.beq (P.cellsOf e) (E.size t)
    | some (.struct fs), .st m => fieldsTy P E (tyOK P E n) (P.cellsOf T) 0 fs.toList (E.cs m)
    | some (.array c e), .st m => match E.ty e with
      | some t => tyOK P E n e t && (Nat.beq (c * P.cellsOf e) (P.cellsOf T) && arrTy E t c (E.cs m))
      | none => false
    | _, _ => false
end
section
variable {H : Type} {enc : TypeId × Value → H} {P : Program} {E : TE} {w : World} {spare : Nat → Bool} {held : Bool}
/-- Everything that is there as a call begins. -/
def allZ (w : World) : Fz := ⟨fun k => k < w.heap.size, w⟩
def Opens (E : TE) (w : World) (ts : List Ty) (cs : List Value) : Prop := ∃ h : HL E.S ts, RD E (allZ w) ts h cs ∧ ∀ k, FitL (FitC E k) ts h
theorem Opens.app {ts us : List Ty} {cs ds : List Value} (h1 : Opens E w ts cs) (h2 : Opens E w us ds) : Opens E w (ts ++ us) (cs ++ ds) := by
  obtain ⟨h, h3, h4⟩ := h1
  obtain ⟨k, h5, h6⟩ := h2
  exact ⟨hap h k, h3.app h5, fun n => (h4 n).app (h6 n)⟩
theorem fields_opens {f : TypeId → Ty → Bool} {total m : Nat} (hf : ∀ T t cs (x : DataW H × List MemPlace), f T t = true → DataW.trod enc P w 0 spare held m T cs = some x → Opens E w (E.flat t) cs) {cs : List Value} (hcs : cs.length = total) :
    ∀ {gs : List Field} {off : Nat} {ts : List Ty} {xs : List (DataW H × List MemPlace)}, fieldsTy P E f total off gs ts = true → xs.length = gs.length →
      (∀ (i : Nat) (g : Field), gs[i]? = some g → DataW.trod enc P w 0 spare held m g.type ((cs.drop g.offset).take (P.cellsOf g.type)) = xs[i]?) → Opens E w ts (cs.drop off)
  | [], off, ts, xs, h, _, _ => by
    simp only [fieldsTy, Bool.and_eq_true] at h
    obtain rfl : off = total := Nat.eq_of_beq_eq_true h.1
    obtain rfl : ts = [] := by simpa using h.2
    rw [List.drop_eq_nil_of_le (by omega)]
    exact ⟨(), .nil, fun _ => trivial⟩
  | g :: gs, off, ts, xs, h, hl, ht => by
    simp only [fieldsTy] at h
    split at h
    · rename_i t hty
      simp only [Bool.and_eq_true] at h
      obtain ⟨h1, h2, h3, h4⟩ := h
      obtain rfl : g.offset = off := Nat.eq_of_beq_eq_true h1
      cases xs with
      | nil => simp at hl
      | cons x xs =>
        have h0 := ht 0 g rfl
        simp only [List.getElem?_cons_zero] at h0
        have ha := hf _ _ _ _ h2 h0
        have hb := fields_opens hf hcs h4 (by simpa using hl) (fun i g' hg => by simpa using ht (i + 1) g' (by simpa using hg))
        have := ha.app hb
        rw [← prefB_eq h3, ← List.drop_drop, List.take_append_drop] at this
        exact this
    · cases h
theorem arr_opens {c m e n : Nat} {t : Ty} {cs : List Value} (hcs : cs.length = n * c) (hf : ∀ i, i < n → Opens E w (E.flat t) ((cs.drop (i * c)).take c)) : ∀ {k : Nat} {ts : List Ty}, k ≤ n → arrTy E t k ts = true → Opens E w ts (cs.drop ((n - k) * c))
  | 0, ts, _, h => by
    obtain rfl : ts = [] := by simpa [arrTy] using h
    rw [List.drop_eq_nil_of_le (by rw [hcs, Nat.sub_zero]; exact Nat.le_refl _)]
    exact ⟨(), .nil, fun _ => trivial⟩
  | k + 1, ts, hk, h => by
    simp only [arrTy, Bool.and_eq_true] at h
    have ha := hf (n - (k + 1)) (by omega)
    have hb := arr_opens (m := m) (e := e) hcs hf (k := k) (by omega) h.2
    have := ha.app hb
    rw [← prefB_eq h.1] at this
    have e1 : (n - k) * c = (n - (k + 1)) * c + c := by
      rw [show n - k = n - (k + 1) + 1 by omega, Nat.succ_mul]
    rw [e1, ← List.drop_drop, List.take_append_drop] at this
    exact this
/-- What is trodden is plain data. -/
theorem trod_opens : ∀ {n fuel : Nat} {T : TypeId} {t : Ty} {cs : List Value} {x : DataW H × List MemPlace}, tyOK P E n T t = true → DataW.trod enc P w 0 spare held fuel T cs = some x → Opens E w (E.flat t) cs
  | 0, _, _, _, _, _, h, _ => by cases h
  | n + 1, fuel, T, t, cs, x, h, hd => by
    simp only [tyOK] at h
    split at h
    · rename_i k k' hu
      obtain rfl := of_decide_eq_true h
      obtain ⟨m, rfl, rfl, hw⟩ := DataW.trod_int hu hd
      exact ⟨(m, ()), .int .nil, fun _ => ⟨by simpa [Lit.wf, InK, FitC] using hw, trivial⟩⟩
    · rename_i hu
      obtain ⟨b, rfl, rfl⟩ := DataW.trod_bool hu hd
      exact ⟨(b, ()), .bool .nil, fun k => ⟨by cases k <;> trivial, trivial⟩⟩
    · rename_i hu
      obtain ⟨s, rfl, rfl, hs⟩ := DataW.trod_string hu hd
      refine ⟨(s.data.toList, ()), ?_, fun k => ⟨?_, trivial⟩⟩
      · have : Value.string s = S s.data.toList := by simp [S]
        rw [this]; exact .str .nil
      · have e : FitC E k .str s.data.toList = (s.data.toList.length ≤ 9223372036854775807) := by cases k <;> rfl
        show FitC E k .str s.data.toList
        rw [e]
        have : s.data.toList.length = s.size := by rw [Array.length_toList]; rfl
        rw [this]; exact hs
    · rename_i e t hu
      simp only [Bool.and_eq_true] at h
      have hC : P.cellsOf e = E.size t := Nat.eq_of_beq_eq_true h.2
      rcases open_slice hu hd with ⟨rfl, _⟩ | ⟨a, len, cap, m, q, D, Pl, rfl, _, hl, hm, hmm, hx, hi⟩
      · exact ⟨([], ()), .sl (rows := []) (SlF.nil _ _ _ _) (Nat.le_refl _) (fun i x r h => by simp at h) .nil, fun k => ⟨by cases k <;> simp [FitC], trivial⟩⟩
      · have hlm : len ≤ m := by rw [hmm]; split <;> omega
        have hc : 0 < E.size t := E.size_pos t
        let row : Nat → List Value := fun i => (w.cells? 0 (a.add (i * E.size t)) (E.size t)).getD []
        have hrow : ∀ i, i < len → w.cells? 0 (a.add (i * E.size t)) (E.size t) = some (row i) ∧ Opens E w (E.flat t) (row i) := fun i hi' => by
          obtain ⟨cs', h1, h2⟩ := hi i (by omega)
          rw [hC] at h1
          simp only [row, h1, Option.getD_some]
          exact ⟨trivial, trod_opens h.1 h2⟩
        have hxs : ∀ j, j ≤ len → ∃ xs : List (Den E.S t), xs.length = j ∧ ∀ i x, xs[i]? = some x → RD E (allZ w) (E.flat t) (E.fl t x) (row i) ∧ ∀ k, FitL (FitC E k) (E.flat t) (E.fl t x) := by
          intro j
          induction j with
          | zero => intro _; exact ⟨[], rfl, fun i x h => by simp at h⟩
          | succ j ih =>
            intro hj
            obtain ⟨xs, h1, h2⟩ := ih (by omega)
            obtain ⟨hh, h3, h4⟩ := (hrow j (by omega)).2
            refine ⟨xs ++ [E.ufl t hh], by simp [h1], fun i x hx => ?_⟩
            rw [List.getElem?_append] at hx
            split at hx
            · exact h2 i x hx
            · rename_i hge
              have hij : i = j := by
                have : i - xs.length < 1 := by
                  rcases Nat.lt_or_ge (i - xs.length) 1 with h5 | h5
                  · exact h5
                  · rw [List.getElem?_eq_none (by simpa using h5)] at hx; cases hx
                omega
              subst hij
              rw [h1, Nat.sub_self] at hx
              simp only [List.getElem?_cons_zero, Option.some.injEq] at hx
              subst hx
              rw [E.fl_ufl]
              exact ⟨h3, h4⟩
        obtain ⟨xs, hxl, hxs⟩ := hxs len (Nat.le_refl _)
        have hr : ∀ (i : Nat) x r, xs[i]? = some x → ((List.range len).map row)[i]? = some r → RD E (allZ w) (E.flat t) (E.fl t x) r := fun i x r h1 h2 => by
          have hil : i < len := by rw [← hxl]; exact (List.getElem?_eq_some_iff.1 h1).1
          rw [List.getElem?_map, List.getElem?_range hil] at h2
          simp only [Option.map_some, Option.some.injEq] at h2
          subst h2
          exact (hxs i x h1).1
        refine ⟨(xs, ()), ?_, fun k => ⟨?_, trivial⟩⟩
        · have hs : SlF (allZ w).F (E.size t) (some a) xs.length ((List.range len).map row) (allZ w).w := by
            refine ⟨by simp [hxl], fun hn => ?_⟩
            obtain ⟨b, off, spot⟩ := a
            rw [hxl] at hn
            have g0 := (World.cells?_some (hrow 0 hn).1).2
            have hg := g0.2 0 hc
            obtain ⟨c0, hc0⟩ : ∃ c0, (row 0)[0]? = some c0 := ⟨(row 0)[0]'(by rw [g0.1]; exact hc), List.getElem?_eq_getElem _⟩
            rw [hc0] at hg
            have hspot : spot = none := by simpa [Addr.add] using World.cell?_spot hg
            subst hspot
            refine ⟨b, off, rfl, ?_, fun i r hr => ?_⟩
            · have hb : ((Addr.add ⟨b, off, none⟩ (0 * E.size t)).add 0).block = b := by rw [Addr.add_mk, Addr.add_mk]
              unfold World.cell? at hg
              split at hg
              · rename_i heap _ _ hh
                rw [hb] at hh
                show b < w.heap.size
                rcases Nat.lt_or_ge b w.heap.size with h' | h'
                · exact h'
                · rw [Array.getElem?_eq_none h'] at hh; cases hh
              · cases hg
            · rw [List.getElem?_map] at hr
              by_cases hi' : i < len
              · rw [List.getElem?_range hi'] at hr
                simp only [Option.map_some, Option.some.injEq] at hr
                subst hr
                obtain ⟨_, h2, h3⟩ := World.cells?_some (hrow i hi').1
                refine ⟨h2, fun j u hu => ?_⟩
                have hj : j < E.size t := by rw [← h2]; exact (List.getElem?_eq_some_iff.1 hu).1
                have := h3 j hj
                rw [Addr.add_mk, Addr.add_mk] at this
                show w.cell? _ = _
                rw [this]; exact hu
              · rw [List.getElem?_eq_none (by simp; omega)] at hr
                cases hr
          have := RD.sl (E := E) (z := allZ w) (e := t) (xs := xs) (cap := cap) (ts := []) (h := ()) hs (by rw [hxl]; exact hl) hr .nil
          rw [hxl] at this
          exact this
        · have hb : xs.length ≤ 9223372036854775807 := by unfold maxLen at hm; omega
          cases k with
          | zero => exact hb
          | succ k =>
            refine ⟨hb, fun x hx => ?_⟩
            obtain ⟨i, hi'⟩ := List.mem_iff_getElem?.1 hx
            exact (hxs i x hi').2 k
    · rename_i fs m hu
      obtain ⟨xs, q, _, rfl, hcl, hxl, hf⟩ := DataW.trod_struct hu hd
      have := fields_opens (fun T t cs x hk ht => trod_opens (n := n) hk ht) hcl h (by simpa using hxl) (fun i g hg => hf i g (by simpa using hg))
      rw [List.drop_zero] at this
      exact this
    · rename_i c e m hu
      split at h
      · rename_i t hty
        simp only [Bool.and_eq_true] at h
        obtain ⟨h1, h2, h3⟩ := h
        obtain ⟨xs, q, _, rfl, hcl, hxl, hf⟩ := DataW.trod_array hu hd
        have hlen : cs.length = c * P.cellsOf e := by rw [hcl]; exact (Nat.eq_of_beq_eq_true h2).symm
        have := arr_opens (c := P.cellsOf e) (m := 0) (e := 0) (t := t) hlen (fun i hi => by
          have := hf i hi
          rw [List.getElem?_eq_getElem (by omega)] at this
          exact trod_opens h1 this) (Nat.le_refl c) h3
        rw [Nat.sub_self, Nat.zero_mul, List.drop_zero] at this
        exact this
      · cases h
    · cases h
/-- An argument. -/
theorem open_arg {r : Reach} {b0 n : Nat} {T : TypeId} {t : Ty} {v : Value} {d : DataW H} {ps : List MemPlace} (ht : tyOK P E n T t = true) (hv : Value.okWide P w r b0 T v) (h : DataW.Trod enc P w 0 spare held T v d ps) :
    ∃ x : Den E.S t, (∃ y, asV E t (E.cells t x) = some y ∧ ∀ (g : Ga), R1 P E (allZ w) g y v) ∧ Fit E t x := by
  obtain ⟨fuel, hf⟩ := h
  obtain ⟨hh, h1, h2⟩ := trod_opens ht hf
  refine ⟨E.ufl t hh, ?_, fun k => by rw [E.fl_ufl]; exact h2 k⟩
  have hcells : RD E (allZ w) (E.flat t) (E.fl t (E.ufl t hh)) v.cells.toList := by rw [E.fl_ufl]; exact h1
  have hRT : RT E (allZ w) t (E.ufl t hh) v := by
    cases n with
    | zero => cases ht
    | succ n =>
      simp only [tyOK] at ht
      split at ht
      · rename_i k k' hu
        obtain ⟨m, rfl⟩ := okWide_int hu hv
        exact hcells
      · rename_i hu
        obtain ⟨m, rfl⟩ := okWide_bool hu hv
        exact hcells
      · rename_i hu
        obtain ⟨m, rfl⟩ := okWide_string hu hv
        exact hcells
      · rename_i e t hu
        obtain ⟨a, len, cap, rfl⟩ := okWide_slice hu hv
        exact hcells
      · rename_i fs m hu
        obtain ⟨cs, rfl, _⟩ := okWide_struct hu hv
        exact ⟨cs.toList, by rw [Array.toArray_toList], hcells⟩
      · rename_i c e m hu
        simp only [Value.okWide, hu] at hv
        obtain ⟨cs, rfl, _⟩ := hv
        exact ⟨cs.toList, by rw [Array.toArray_toList], hcells⟩
      · cases ht
  obtain ⟨y, h3, h4⟩ := RT_asV (P := P) hRT (fun _ => .none)
  refine ⟨y, h3, fun g => ?_⟩
  obtain ⟨y', h5, h6⟩ := RT_asV (P := P) hRT g
  rw [h3] at h5
  obtain rfl := Option.some.inj h5
  exact h6
/-- A law: a function of data alone, which says true. -/
theorem law_of_con {f : FuncId} {ps : List Pm} {F : PA E ps → Option (Tp E.S (Rs.ts [(.bool, [])] ++ backs ps))} {ali : Bool} (hc : (conOf E ps [(.bool, [])] ali F).OK P E f) (hl : lends ps = false) {a : PA E ps} {y : Tp E.S (Rs.ts [(.bool, [])] ++ backs ps)} (hF : F a = some y)
    (hy : (hfst (Rs.ts [(.bool, [])]) (backs ps) (ofTp _ y)).1 = true) {svs : List (V1 E)} (hsv : argsV E ps a 0 = some svs) {vs : List Value} (hvs : All2 (R1 P E (allZ w) fun _ => none) svs vs) :
    Ret P f vs.toArray w fun v w' => v = .bool true ∧ Below w.heap.size w w' := by
  obtain ⟨rh, bh, hk, hcall⟩ := hc Bool a (fun rh _ => some rh.1) true (by
    show (F a).bind _ = _
    rw [hF]
    exact congrArg some hy)
  have hin : (allZ w).In w := fun k hk => ⟨hk, rfl⟩
  refine (hcall w (allZ w) (fun _ => none) [] svs vs hsv (by
    show HR P E [] (allZ w).F w w (allZ w) (fun _ => none) (upH (fun _ => none) (argsO E ps a 0))
    rw [argsO_own hl]
    exact HR.nothing hin _) (fun _ _ => rfl) hvs).mono fun v w' ⟨z', g', svr, _, _, _, hres, hrv, hHR⟩ => ?_
  refine ⟨?_, hHR.chg.below⟩
  have hrh : rh.1 = true := Option.some.inj hk
  have e : svr = [.one (.dt .bool rh.1)] := (Option.some.inj hres).symm
  subst e
  rw [hrh] at hrv
  exact SV.bool_ok rfl hrv
end
end Rt
end Go
