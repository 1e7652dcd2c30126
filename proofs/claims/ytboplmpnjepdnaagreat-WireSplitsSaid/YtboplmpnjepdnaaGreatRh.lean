/-
  The second engine, eighth text: slices that are written out, copy; every operation that makes or turns memory. No program in sight.
-/
import Derived.Test.YtboplmpnjepdnaaGreatRg
namespace Go
namespace Rt
open Go.RowKit

section
variable {P : Program} {E : TE} {z : Fz} {g : Ga} {nx : Nat}
variable {L : Nat → Option (SV E)} {H : Nat → Option (Obj E)} {ρ : Operand → Value} {w w0 : World} {o : Oper} {R : Type} {r : R} {Bs : List Nat} {F0 : Nat → Prop}
variable {k : Option (SV E) → Chs E → Option R}
/-! ### Slices that are written out -/
def chunksD (E : TE) (H : Nat → Option (Obj E)) (t : Ty) : Nat → List (SC E) → Option (List (Den E.S t))
  | 0, _ => some []
  | n + 1, l => match dataL E H (E.flat t) (l.take (E.size t)) with
    | some h => match chunksD E H t n (l.drop (E.size t)) with
      | some xs => some (E.ufl t h :: xs)
      | none => none
    | none => none
theorem chunksD_ok {t : Ty} (hH : HR P E Bs F0 w0 w z g H) : ∀ {n : Nat} {l : List (SC E)} {xs : List (Den E.S t)} {vs : List Value}, chunksD E H t n l = some xs → All2 (RC P E z g) l vs → vs.length = n * E.size t →
    ∃ rows : List (List Value), rows.flatten = vs ∧ rows.length = n ∧ xs.length = n ∧ Rows E z t xs rows
  | 0, l, xs, vs, h, hr, hl => by
    simp only [chunksD, Option.some.injEq] at h
    subst h
    rw [Nat.zero_mul] at hl
    exact ⟨[], (List.eq_nil_of_length_eq_zero hl).symm, rfl, rfl, fun i x r h => by simp at h⟩
  | n + 1, l, xs, vs, h, hr, hl => by
    simp only [chunksD] at h
    split at h
    · rename_i hd hh
      split at h
      · rename_i xs' hx
        obtain rfl := Option.some.inj h
        have hrow := dataL_ok hH hh (hr.take (E.size t))
        obtain ⟨rows, h1, h2, h3, h4⟩ := chunksD_ok hH hx (hr.drop (E.size t)) (by rw [List.length_drop, hl, Nat.succ_mul]; omega)
        refine ⟨vs.take (E.size t) :: rows, by rw [List.flatten_cons, h1, List.take_append_drop], by simp [h2], by simp [h3], fun i x r hx hr => ?_⟩
        cases i with
        | zero =>
          simp only [List.getElem?_cons_zero, Option.some.injEq] at hx hr
          subst hx; subst hr
          rw [E.fl_ufl]
          exact hrow
        | succ i =>
          simp only [List.getElem?_cons_succ] at hx hr
          exact h4 i x r hx hr
      · cases h
    · cases h
theorem All2.rep {l : List (SC E)} {vs : List Value} (h : All2 (RC P E z g) l vs) : ∀ n, All2 (RC P E z g) (List.replicate n l).flatten (List.replicate n vs).flatten
  | 0 => .nil
  | n + 1 => by
    simp only [List.replicate_succ, List.flatten_cons]
    exact h.append (h.rep n)
def lSlice (P : Program) (E : TE) (L : Nat → Option (SV E)) (H : Nat → Option (Obj E)) (nx : Nat) (T : TypeId) (n : Nat) (ps : Array (Nat × Operand)) {R : Type} (k : Option (SV E) → Chs E → Option R) : Option R :=
  match P.underlying T with
  | some (.slice e) => match E.ty e, zeroC P E e, sizeV P e with
    | some t, some zc, some s => match Nat.beq s (E.size t) && Nat.beq zc.length s && Nat.ble (n * s) 16777216 && Nat.ble n 9223372036854775807 with
      | true => match buildS E L s ps.toList (List.replicate n zc).flatten with
        | some l => match chunksD E (upH H (frzL H l)) t n l with
          | some xs => k (some (.v (.one (.own nx)))) ((nx, some (.row e t xs [])) :: frzL H l)
          | none => none
        | none => none
      | false => none
    | _, _, _ => none
  | _ => none
theorem lSlice_ok {T : TypeId} {n : Nat} {ps : Array (Nat × Operand)} (ho : o.op = .buildSlice T n ps) (hnx : Fresh g nx) (hρ : OpR P E z g L ρ) (hH : HR P E Bs F0 w0 w z g H) (h : lSlice P E L H nx T n ps k = some r) : Turns P E Bs F0 w0 w z g nx H ρ o true k r := by
  unfold lSlice at h
  split at h
  · rename_i e hu
    split at h
    · rename_i t zc s ht hz hs
      split at h
      · rename_i hb
        simp only [Bool.and_eq_true] at hb
        obtain ⟨⟨⟨hb1, hb2⟩, hb3⟩, hb4⟩ := hb
        obtain rfl := Nat.eq_of_beq_eq_true hb1
        have hzl := Nat.eq_of_beq_eq_true hb2
        have hbig := Nat.le_of_ble_eq_true hb3
        split at h
        · rename_i l hl
          split at h
          · rename_i xs hx
            obtain ⟨zs, hzo, hzr⟩ := zeroC_ok (P := P) (z := z) (g := g) hz
            have hzs : zs.length = E.size t := by rw [← hzr.len]; exact hzl
            obtain ⟨inf, zv, hi, hzv, rfl⟩ : ∃ inf zv, P.info? e = some inf ∧ inf.zero = some zv ∧ zs = zv.cells.toList := by
              unfold zeroOf at hzo
              split at hzo
              · rename_i inf hi
                split at hzo
                · rename_i zv hzv
                  exact ⟨inf, zv, hi, hzv, (Option.some.inj hzo).symm⟩
                · cases hzo
              · cases hzo
            have hsz : inf.size = E.size t := by simpa [sizeV, hi] using hs
            have hflat := flatten_replicate_cells zv.cells.toList n
            rw [hzs, Array.toArray_toList] at hflat
            obtain ⟨cells', hf, hr⟩ := buildS_fill (P := P) hρ hl (cells := madeCells zv.cells (n * E.size t)) (by rw [← hflat]; exact hzr.rep n)
            have hfsz : ∀ (ps : List (Nat × Value)) (c c' : Array Value) (pl : Nat → Option (Nat × Nat)), Instr.fill pl c ps = some c' → c'.size = c.size := by
              intro ps
              induction ps with
              | nil => intro c c' pl h; simp only [Instr.fill, Option.some.injEq] at h; subst h; rfl
              | cons p ps ih =>
                intro c c' pl h
                simp only [Instr.fill] at h
                split at h
                · cases h
                · split at h
                  · cases h
                  · rw [ih _ _ _ h]
                    have key : ∀ (us : List (Value × Nat)) (off : Nat) (c : Array Value), (us.foldl (fun cs (q : Value × Nat) => cs.setIfInBounds (off + q.2) q.1) c).size = c.size := by
                      intro us
                      induction us with
                      | nil => intro off c; rfl
                      | cons u us ih => intro off c; rw [List.foldl_cons, ih]; simp
                    rw [← Array.foldl_toList]
                    exact key _ _ _
            have hcl : cells'.toList.length = n * E.size t := by
              rw [Array.length_toList, hfsz _ _ _ _ hf, size_madeCells]
            obtain ⟨z', hz', hH'⟩ := frzL_ok hH l
            obtain ⟨rows, h1, h2, h3, h4⟩ := chunksD_ok hH' hx (hr.mono fun _ _ h => RC.le h hz' (Ga.Le.refl g)) hcl
            have hcells := h4.cells (by omega)
            have hS := (Sep.start [] w).row_new e (E.size t) n rows h2 hcells.2 hb4
            rw [h1, Array.toArray_toList] at hS
            obtain ⟨hown', hlen', _⟩ := hS.hold _ (List.mem_cons_self ..)
            have hfp := hS.own _ (List.mem_cons_self ..) trivial
            have hrun : (execOp ρ o).run P w = .ok (.value (.slice (some ⟨w.heap.size, 0, none⟩) n n)) (w.alloc (.cells cells' e)) := by
              unfold execOp
              rw [ho]
              have e3 : (ps.map fun (i, x) => (i, ρ x)).toList = ps.toList.map fun p => (p.1, ρ p.2) := by simp
              have hng : ¬ (n * inf.size > 2 ^ 24) := by rw [hsz]; omega
              simp only [Instr.buildSlice, Sem.run_bind, run_underlying hu, Result.andThen_ok, sizeOf, typeInfo, run_program, hi, Sem.run_pure]
              rw [if_neg hng]
              rw [e3]
              by_cases h0 : n * E.size t = 0
              · rw [if_pos (by rw [hsz]; exact h0)]
                have hmade : (Array.range (n * E.size t)).map (fun x => (#[] : Array Value)[x % (#[] : Array Value).size]!) = madeCells zv.cells (n * E.size t) := by rw [h0]; simp [madeCells]
                simp only [Sem.run_bind, Sem.run_pure, Result.andThen_ok, hmade, hsz, hf, newRow]
                rfl
              · rw [if_neg (by rw [hsz]; exact h0)]
                have hmade : (Array.range (n * E.size t)).map (fun x => zv.cells[x % zv.cells.size]!) = madeCells zv.cells (n * E.size t) := rfl
                have hzrun : (zeroValue e).run P w = .ok zv w := by simp [zeroValue, typeInfo, hi, hzv]
                simp only [Sem.run_bind, Sem.run_pure, Result.andThen_ok, hzrun, hmade, hsz, hf, newRow]
                rfl
            have hup : upH H ((nx, some (.row e t xs [])) :: frzL H l) = upH (upH H (frzL H l)) [(nx, some (.row e t xs []))] := by rw [upH_append]; rfl
            refine ⟨_, _, z', _, _, _, h, ⟨hrun, ⟨_, rfl, _, Ga.put_self _ _ ⟨some ⟨w.heap.size, 0, none⟩, n, n, E.size t, 0, 0⟩, rfl⟩, hz', Ga.le_put hnx.self, hnx.put _, ?_, fun _ => Ext.one w _⟩⟩
            rw [hup]
            exact hH'.row_new hnx (Ext.one w _) h3 hown' hlen' h4 fun q ⟨a, ha, hq⟩ => (hfp q ⟨a, ha, hq⟩).resolve_right (by simp)
          · cases h
        · cases h
      · cases h
    · cases h
  · cases h
/-! ### copy -/
def copyL {α : Type} (xs ys : List α) : List α := ys.take (min ys.length xs.length) ++ xs.drop (min ys.length xs.length)
theorem run_copy_own {T T2 e c : Nat} {x y : Operand} {n cap m cap2 : Nat} {A A2 : Option Addr} {rows news : List (List Value)} {F : Nat → Prop} (ho : o.op = .call { callee := .builtin .copy, args := #[x, y], argTypes := #[T, T2] }) (hu : P.underlying T = some (.slice e)) (hs : sizeV P e = some c)
    (hx : ρ x = .slice A n cap) (hy : ρ y = .slice A2 m cap2) (hR : Res.holds w (.row e c A n cap rows)) (hsl : SlF F c A2 m news w) (hnl : ∀ q ∈ news, q.length = c) (hone : OneRows news) :
    ∃ w', (execOp ρ o).run P w = .ok (.value (.int .i64 ((min m n : Nat) : Int))) w' ∧ Res.holds w' (.row e c A n cap (news.take (min m n) ++ rows.drop (min m n))) ∧ Grow w w' ∧ ∀ q, ¬ rowF A q → w'.heap[q]? = w.heap[q]? := by
  obtain ⟨cs, hop⟩ := op_builtin (ρ := ρ) ho
  rw [BigFrame.builtin_copy] at hop
  obtain ⟨hown, hlen, hrl⟩ := hR
  obtain ⟨inf, hi, hsz⟩ : ∃ inf, P.info? e = some inf ∧ inf.size = c := by
    unfold sizeV at hs
    cases hq : P.info? e with
    | none => simp [hq] at hs
    | some i => exact ⟨i, rfl, by simpa [hq] using hs⟩
  have hmin : Nat.min m n = min m n := rfl
  have hload : (Builtin.firstCells c (Nat.min m n) (.slice A2 m cap2)).run P w = .ok (news.take (min m n)).flatten.toArray w := by
    have htl : ∀ q ∈ news.take (min m n), q.length = c := fun q hq => hnl q (List.mem_of_mem_take hq)
    have hfl : (news.take (min m n)).flatten.length = min m n * c := by
      rw [length_flatten_rows htl, List.length_take, hsl.1]
      congr 1; omega
    cases A2 with
    | none =>
      have hm : m = 0 := by
        rcases Nat.eq_zero_or_pos m with h0 | h0
        · exact h0
        · obtain ⟨b, off, hh, _⟩ := hsl.2 h0; cases hh
      have : (news.take (min m n)).flatten = [] := List.eq_nil_of_length_eq_zero (by rw [hfl, hm]; simp)
      rw [this]
      rfl
    | some ad =>
      have := run_loadCells_list (P := P) w ad (news.take (min m n)).flatten (fun j v hv => by
        have hjl : j < min m n * c := by rw [← hfl]; exact (List.getElem?_eq_some_iff.1 hv).1
        have hc0 : 0 < c := by
          rcases Nat.eq_zero_or_pos c with h0 | h0
          · rw [h0] at hjl; omega
          · exact h0
        have hm0 : 0 < m := by
          rcases Nat.eq_zero_or_pos m with h0 | h0
          · subst h0; simp at hjl
          · exact h0
        obtain ⟨b, off, hA, _, hcell⟩ := hsl.2 hm0
        simp only [Option.some.injEq] at hA
        subst hA
        have hq : j / c < min m n := Nat.div_lt_of_lt_mul (by rw [Nat.mul_comm]; exact hjl)
        have hqn : j / c < news.length := by rw [hsl.1]; omega
        have hmod : j % c < c := Nat.mod_lt _ hc0
        have hrow := hcell (j / c) _ (List.getElem?_eq_getElem hqn)
        have hgt : (news.take (min m n))[j / c]? = some news[j / c] := by rw [List.getElem?_take, if_pos hq, List.getElem?_eq_getElem hqn]
        have hju := flatten_get htl hgt (j % c) (news[j / c][j % c]'(by rw [hrow.1]; exact hmod)) (List.getElem?_eq_getElem _)
        have hj : j / c * c + j % c = j := by rw [Nat.mul_comm]; exact Nat.div_add_mod j c
        rw [hj, hv] at hju
        have hcl := hrow.2 (j % c) _ (List.getElem?_eq_getElem (by rw [hrow.1]; exact hmod))
        rw [Nat.add_assoc, hj] at hcl
        rw [Addr.add_mk, hcl, hju])
      rw [hfl] at this
      exact this
  have hnt : ∀ q ∈ news.take (min m n) ++ rows.drop (min m n), q.length = c := fun q hq => by
    rcases List.mem_append.1 hq with hq | hq
    · exact hnl q (List.mem_of_mem_take hq)
    · exact hrl q (List.mem_of_mem_drop hq)
  have hnlen : (news.take (min m n) ++ rows.drop (min m n)).length = n := by
    rw [List.length_append, List.length_take, List.length_drop, hsl.1, hlen]
    omega
  have hfl : (news.take (min m n)).flatten.length = min m n * c := by
    rw [length_flatten_rows (c := c) (fun q hq => hnl q (List.mem_of_mem_take hq)), List.length_take, hsl.1]
    congr 1; omega
  rcases hown.2 with ⟨hv, hn0⟩ | ⟨b, cap', cur, hv, hb, hh, hnc, hcm, hcs, htk⟩
  · injection hv with e1 e2 e3
    subst hn0; subst e1; subst e3
    refine ⟨w, ?_, ⟨⟨?_, .inl ⟨rfl, rfl⟩⟩, hnlen, hnt⟩, Grow.refl w, fun _ _ => rfl⟩
    · have hl0 := hload
      rw [show Nat.min m 0 = 0 from Nat.min_zero m] at hl0
      rw [hop]
      simp [hx, hy, Builtin.copy_, run_underlying hu, Builtin.lenOf, sizeOf, typeInfo, hi, hsz, hl0, goInt]
    · rw [length_flatten_rows hnt, hnlen]
  · injection hv with e1 _ e3
    subst e1; subst e3
    have hfit : 0 + 0 + (news.take (min m n)).flatten.length ≤ cur.size := by
      rw [hfl, hcs]
      have : min m n * c ≤ cap * c := Nat.mul_le_mul_right c (by omega)
      omega
    have h1 : ∀ v ∈ (news.take (min m n)).flatten, v.oneCell' = true := fun v hv => by
      obtain ⟨q, hq, hvq⟩ := List.mem_flatten.1 hv
      exact allCells_one (hone q (List.mem_of_mem_take hq)) v hvq
    have hst := run_storeCells_at (P := P) b 0 e (news.take (min m n)).flatten 0 cur w hh hfit h1
    refine ⟨w.setRow b (cur.toList.take (0 + 0) ++ (news.take (min m n)).flatten ++ cur.toList.drop (0 + 0 + (news.take (min m n)).flatten.length)).toArray, ?_, ⟨⟨?_, .inr ⟨b, cap, _, rfl, Nat.zero_le _, setRow_at w b _ cur e hh, hnc, hcm, ?_, ?_⟩⟩, hnlen, hnt⟩, setRow_grow w b _, fun q hq => setRow_else w b q _ (fun he => hq ⟨_, rfl, he⟩)⟩
    · rw [hop]
      simp [hx, hy, Builtin.copy_, run_underlying hu, Builtin.lenOf, sizeOf, typeInfo, hi, hsz, hload, goInt, hst]
    · rw [length_flatten_rows hnt, hnlen]
    · simp only [Nat.zero_add, Nat.add_zero, List.take_zero, List.nil_append, List.size_toArray, List.length_append, List.length_drop, Array.length_toList, hcs] at hfit ⊢
      omega
    · simp only [Nat.zero_add, Nat.add_zero, List.take_zero, List.nil_append]
      have hrf : (rows.drop (min m n)).flatten = rows.flatten.drop (min m n * c) := by
        have e1 : rows.flatten = (rows.take (min m n)).flatten ++ (rows.drop (min m n)).flatten := by rw [← List.flatten_append, List.take_append_drop]
        have e2 : (rows.take (min m n)).flatten.length = min m n * c := by
          rw [length_flatten_rows (c := c) (fun q hq => hrl q (List.mem_of_mem_take hq)), List.length_take, hlen]
          congr 1; omega
        rw [e1, List.drop_left' e2]
      rw [List.flatten_append, hrf, ← htk]
      rw [List.take_append, hfl]
      rw [List.take_of_length_le (by rw [hfl]; exact Nat.mul_le_mul_right c (by omega))]
      rw [List.drop_take]
def lCopy (P : Program) (E : TE) (L : Nat → Option (SV E)) (H : Nat → Option (Obj E)) (T : TypeId) (x y : Operand) {R : Type} (k : Option (SV E) → Chs E → Option R) : Option R :=
  match opS E L x, opS E L y, P.underlying T with
  | some (.v (.one (.own id))), some (.v (.one cy)), some (.slice e) => match H id with
    | some (.row e' t xs _) => match Nat.beq e' e, sizeV P e, cy.rdT H t with
      | true, some s, some ys => match Nat.beq s (E.size t) with
        | true => k (some (.v (.one (.dt (.int .i64) ((min ys.length xs.length : Nat) : Int))))) [(id, some (.row e t (copyL xs ys) []))]
        | false => none
      | _, _, _ => none
    | _ => none
  | _, _, _ => none
theorem copy_rows {t : Ty} {xs ys : List (Den E.S t)} {rows news : List (List Value)} (h : Rows E z t xs rows) (h' : Rows E z t ys news) (hl' : news.length = ys.length) : Rows E z t (copyL xs ys) (news.take (min ys.length xs.length) ++ rows.drop (min ys.length xs.length)) := by
  unfold copyL
  refine Rows.append ?_ ?_ (by rw [List.length_take, List.length_take, hl'])
  · have := rows_sub h' 0 (min ys.length xs.length)
    simpa using this
  · intro i x r hx hr
    rw [List.getElem?_drop] at hx hr
    exact h _ x r hx hr
theorem lCopy_ok {T T2 : TypeId} {x y : Operand} (ho : o.op = .call { callee := .builtin .copy, args := #[x, y], argTypes := #[T, T2] }) (hnx : Fresh g nx) (hρ : OpR P E z g L ρ) (hH : HR P E Bs F0 w0 w z g H) (h : lCopy P E L H T x y k = some r) : Turns P E Bs F0 w0 w z g nx H ρ o false k r := by
  unfold lCopy at h
  split at h
  · rename_i id cy e hx hy hu
    split at h
    · rename_i e' t xs foc hi
      split at h
      · rename_i s ys hb hs hys
        obtain rfl := Nat.eq_of_beq_eq_true hb
        split at h
        · rename_i hb2
          obtain rfl := Nat.eq_of_beq_eq_true hb2
          obtain ⟨l, h1, ev⟩ := hρ x _ hx
          obtain ⟨l2, rows, h3, hn, hc, hown, hlen, hrl, hrows, _⟩ := hH.hold _ _ hi
          rw [h1] at h3; obtain rfl := Option.some.inj h3
          obtain ⟨A2, cap2, news, F, ey, hsl, hcap2, hnews⟩ := SC.rdT_ok hH hys (hρ y _ hy)
          obtain ⟨hone, hnl⟩ := hnews.cells hsl.1
          obtain ⟨w', hrun, hR', hgrow, hoth⟩ := run_copy_own (P := P) (w := w) (rows := rows) ho hu hs ev ey ⟨by rw [← hc]; exact hown, hlen, by rw [← hc]; exact hrl⟩ hsl hnl hone
          obtain ⟨hown', hlen', hrl'⟩ := hR'
          have hrows' := copy_rows hrows hnews hsl.1
          have hcl : (copyL xs ys).length = xs.length := by unfold copyL; simp; omega
          rw [hn] at hrun hown' hlen' hrl'
          refine ⟨_, _, z, g, w', _, h, ⟨hrun, ⟨_, rfl, .int .nil⟩, Fz.Le.refl z, Ga.Le.refl g, hnx.succ, ?_, fun h => by cases h⟩⟩
          refine hH.turn (Ga.Le.refl g) (i := id) (i' := id) (C := rowF l.A) (fun q ⟨a, ha, hq⟩ => ⟨_, hi, l, a, h1, ha, hq⟩) hgrow (fun q _ hq => hoth q hq) (o' := .row e' t (copyL xs ys) []) ?_ (fun q hq => ?_) fun j p hj => ?_
          · exact ⟨l, _, h1, by rw [hcl]; exact hn, hc, by rw [hn, hc]; exact hown', by rw [hn]; exact hlen', by rw [hc]; exact hrl', hrows', fun p hp => nomatch hp⟩
          · obtain ⟨l2, a2, h5, h6, rfl⟩ := hq
            rw [h1] at h5; obtain rfl := Option.some.inj h5
            exact .inl ⟨a2, h6, rfl⟩
          · rcases upH_one hj with ⟨rfl, rfl⟩ | ⟨h5, h6⟩
            · exact .inl ⟨rfl, rfl⟩
            · exact .inr ⟨h5, .inl h5, h6⟩
        · cases h
      · cases h
    · cases h
  · cases h
end
end Rt
end Go
