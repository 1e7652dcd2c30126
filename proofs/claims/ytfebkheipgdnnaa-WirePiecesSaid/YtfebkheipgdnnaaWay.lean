/-
  Conversions, cuts, calls, the way in, the way out, tests, joins, loops, and regions that draw their order: for the walks that a program writes. No program in sight.
-/
import Derived.Test.YtfebkheipgdnnaaFlow
namespace Go
namespace Rt
open Go.RowKit

section
variable {P : Program} {ρ : Operand → Value} {w w' w0 : World} {o : Oper} {Bs : List Nat} {L : List Res}

/-! ### Conversions and cuts -/
theorem foldl_push (ns : List Int) : ∀ (s : ByteArray), ns.foldl (fun r n => r.push (UInt8.ofNat n.toNat)) s = ⟨(s.data.toList ++ bytesS ns).toArray⟩ := by
  induction ns with
  | nil => intro s; simp [bytesS]
  | cons n ns ih =>
    intro s
    rw [List.foldl_cons, ih]
    congr 1
    have : (s.push (UInt8.ofNat n.toNat)).data.toList = s.data.toList ++ [UInt8.ofNat n.toNat] := by
      cases s; simp [ByteArray.push]
    rw [this]
    simp [bytesS]
theorem run_bytes_str {src dst e : TypeId} {x : Operand} {n cap : Nat} {A : Option Addr} {F : Nat → Prop} {ns : List Int} (ho : o.op = .convert src dst x) (hsrc : P.underlying src = some (.slice e)) (he : P.underlying e = some (.int .u8)) (hd : P.underlying dst = some .string)
    (hx : ρ x = .slice A n cap) (hs : SlF F 1 A n (ns.map fun b => [Value.int .u8 b]) w) : (execOp ρ o).run P w = .ok (.value (S (bytesS ns))) w := by
  have hlen : ns.length = n := by have := hs.1; simpa using this
  have main : (Conv.bytesToString (.slice A n cap)).run P w = .ok (S (bytesS ns)) w := by
    cases A with
    | none =>
      have hn : ns = [] := by
        rcases Nat.eq_zero_or_pos n with h0 | h0
        · exact List.eq_nil_of_length_eq_zero (by omega)
        · obtain ⟨b, off, hh, _⟩ := hs.2 h0; cases hh
      subst hn
      rfl
    | some ad =>
      have hl : (loadCells ad n).run P w = .ok (ns.map (Value.int .u8)).toArray w := by
        have := run_loadCells_list (P := P) w ad (ns.map (Value.int .u8)) (fun j v hv => by
          rw [List.getElem?_map] at hv
          cases hj : ns[j]? with
          | none => rw [hj] at hv; cases hv
          | some b' =>
            rw [hj] at hv
            simp only [Option.map_some, Option.some.injEq] at hv
            subst hv
            have hlt := (List.getElem?_eq_some_iff.1 hj).1
            obtain ⟨b, off, hA, _, hc⟩ := hs.2 (by omega)
            simp only [Option.some.injEq] at hA
            subst hA
            have := (hc j [Value.int .u8 b'] (by rw [List.getElem?_map, hj]; rfl)).2 0 _ rfl
            rw [Addr.add_mk]
            simpa using this)
        rw [List.length_map, hlen] at this
        exact this
      rw [run_bytesToString (P := P) w ad n cap ns hl, foldl_push]
      rfl
  unfold execOp
  simp only [ho, hx]
  rw [Sem.run_bind, run_convert_bytes_string (P := P) w src dst e A n cap hsrc he hd, main]
  rfl
/-- The cut's value. -/
def cutA (A : Option Addr) (c l m : Nat) : Option Addr := if m = l then A else A.map (·.add (l * c))
theorem run_cut {t e c n cap : Nat} {x : Operand} {lo hi : Option Operand} {A : Option Addr} (ho : o.op = .slice t x lo hi none) (ht : P.underlying t = some (.slice e)) (hc : sizeV P e = some c) (hx : ρ x = .slice A n cap)
    {l h : Option Int} (hl : boundIs ρ lo l) (hh : boundIs ρ hi h) (h0 : 0 ≤ l.getD 0) (h1 : l.getD 0 ≤ h.getD n) (h2 : h.getD n ≤ cap) :
    (execOp ρ o).run P w = .ok (.value (.slice (cutA A c (l.getD 0).toNat cap) ((h.getD n).toNat - (l.getD 0).toNat) (cap - (l.getD 0).toNat))) w := by
  unfold sizeV at hc
  cases hq : P.info? e with
  | none => simp [hq] at hc
  | some inf =>
    have hs' : inf.size = c := by simpa [hq] using hc
    unfold execOp
    simp only [ho, hx, Option.map_none]
    simp [Instr.sliceAt, Instr.slice, run_underlying ht, sizeOf, typeInfo, hq, hs', run_bounds_any (P := P) (w := w) true hl hh h0 h1 h2, cutA]
theorem SlF.cut {F : Nat → Prop} {c n cap : Nat} {A : Option Addr} {rows : List (List Value)} (h : SlF F c A n rows w) (hcap : n ≤ cap) {lo hi : Nat} (h1 : lo ≤ hi) (h2 : hi ≤ n) :
    SlF F c (cutA A c lo cap) (hi - lo) ((rows.take hi).drop lo) w := (h.take h2).drop h1 (Nat.le_trans h2 hcap)
/-- Reading a cut of memory that is only read. -/
theorem Sep.ro_cut {i : Nat} {F : Nat → Prop} {φ : World → Prop} (h : Sep Bs w0 w L) (hi : L[i]? = some (.ro F φ)) {ψ : World → Prop} (hψ : ψ w) (hl : Local F ψ) : Sep Bs w0 w (.ro F ψ :: L) := by
  have hm := List.mem_of_getElem? hi
  refine ⟨h.chg, fun s hs => ?_, fun s hs he k hk => ?_, ?_⟩
  · rcases List.mem_cons.1 hs with rfl | hs
    · exact ⟨hψ, hl, (h.hold _ hm).2.2⟩
    · exact h.hold s hs
  · rcases List.mem_cons.1 hs with rfl | hs
    · cases he
    · exact h.own s hs he k hk
  · refine List.Pairwise.cons (fun s hs he k hk hk' => ?_) h.apart
    have hse : s.excl := he.resolve_left (fun x => x)
    obtain ⟨j, hj⟩ := List.mem_iff_getElem?.1 hs
    by_cases hij : j = i
    · subst hij
      rw [hi] at hj
      obtain rfl := Option.some.inj hj
      exact hse
    · exact h.apart_at hj hi hij (.inl hse) k hk' hk
/-- A row of the call's own is from now on only read. -/
theorem Sep.freeze {i e c n cap : Nat} {A : Option Addr} {rows : List (List Value)} (h : Sep Bs w0 w L) (hi : L[i]? = some (.row e c A n cap rows)) : Sep Bs w0 w (L.set i (.ro (rowF A) (SlF (rowF A) c A n rows))) := by
  have hh := h.hold _ (List.mem_of_getElem? hi)
  refine h.turn i hi trivial ⟨row_reads hh, SlF.local, fun k hk => Res.holds_lt hh k hk⟩ (Grow.refl _) (fun _ _ _ => rfl) (fun k hk => .inl hk)

/-! ### Calls -/
/-- A call that leaves old memory alone: it returns v, of which R says what is to be known. -/
def Ret (P : Program) (f : FuncId) (args : Array Value) (w : World) (R : Value → World → Prop) : Prop := Calls P f args w fun e w' => ∃ v, e = .returned v ∧ R v w'
theorem Ret.mono {f : FuncId} {args : Array Value} {R R' : Value → World → Prop} (h : Ret P f args w R) (hR : ∀ v w', R v w' → R' v w') : Ret P f args w R' :=
  Calls.mono h fun _ _ ⟨v, he, hr⟩ => ⟨v, he, hR _ _ hr⟩
theorem Ext.of_sep {L' : List Res} (h : Sep [] w w' L') : Ext w w' := Ext.of_below h.chg.below
def noRo : List Res → Bool
  | [] => true
  | .ro .. :: _ => false
  | _ :: r => noRo r
theorem noRo_excl {L : List Res} (h : noRo L = true) : ∀ r ∈ L, r.excl := by
  induction L with
  | nil => intro r hr; cases hr
  | cons x L ih =>
    intro r hr
    cases x with
    | ro F φ => cases h
    | box b T cs =>
      rcases List.mem_cons.1 hr with rfl | hr
      · trivial
      · exact ih h r hr
    | row e c A n cap rows =>
      rcases List.mem_cons.1 hr with rfl | hr
      · trivial
      · exact ih h r hr
/-- What a call has made is the caller's own. -/
theorem Sep.call {L' : List Res} (h : Sep Bs w0 w L) (h' : Sep [] w w' L') (hn : noRo L' = true) : Sep Bs w0 w' (L' ++ L) := by
  have hx := Ext.of_sep h'
  have he := h.ext hx
  have hex := noRo_excl hn
  refine ⟨he.chg, fun r hr => ?_, fun r hr hre k hk => ?_, ?_⟩
  · rcases List.mem_append.1 hr with hr | hr
    · exact h'.hold r hr
    · exact he.hold r hr
  · rcases List.mem_append.1 hr with hr | hr
    · exact .inl (Nat.le_trans h.size ((h'.own r hr hre k hk).resolve_right (by simp)))
    · exact he.own r hr hre k hk
  · refine List.pairwise_append.2 ⟨h'.apart, he.apart, fun r hr s hs _ k hk hk' => ?_⟩
    have h1 := (h'.own r hr (hex r hr) k hk).resolve_right (by simp)
    have h2 := Res.holds_lt (h.hold s hs) k hk'
    omega
end

/-! ### The way in and out -/
def argEnv : Nat → List Value → List (Nat × Value)
  | _, [] => []
  | i, v :: r => (i, v) :: argEnv (i + 1) r
theorem look_argEnv : ∀ (l : List Value) (i t : Nat) (v : Value), look t (argEnv i l) = some v → i ≤ t ∧ l[t - i]? = some v
  | [], i, t, v, h => by simp [argEnv, look] at h
  | x :: r, i, t, v, h => by
    simp only [argEnv, look] at h
    cases hb : Nat.beq t i with
    | true =>
      rw [hb] at h
      obtain rfl : t = i := Nat.eq_of_beq_eq_true hb
      simpa using h
    | false =>
      rw [hb] at h
      have hne := beq_false hb
      obtain ⟨h1, h2⟩ := look_argEnv r (i + 1) t v h
      refine ⟨by omega, ?_⟩
      have : t - i = (t - (i + 1)) + 1 := by omega
      rw [this]; simpa using h2
section
variable {P : Program} {w w' w0 : World} {N : Nat} {a : Act} {env : List (Nat × Value)} {Q : Exit → Act → World → Prop} {Bs : List Nat} {L : List Res}
theorem enter {f : FuncId} {fn : Func} {c : Code} {args : Array Value} {R : Value → World → Prop} (hf : P.funcs[f]? = some fn) (hb : fn.body = some c) (hN : fn.ntmps = N) (hle : Nat.ble args.size N = true)
    (h : ∀ a, Env N a (argEnv 0 args.toList) → c.wp P (bodyPost P fn fun e w' => ∃ v, e = .returned v ∧ R v w') a w) : Ret P f args w R := by
  refine calls_of_wp hf hb (h _ ⟨?_, rfl, fun t v ht => ?_⟩)
  · have := Nat.le_of_ble_eq_true hle
    simp [hN]; omega
  · obtain ⟨_, h2⟩ := look_argEnv _ _ _ _ ht
    simp only [Nat.sub_zero] at h2
    have hlt := (List.getElem?_eq_some_iff.1 h2).1
    rw [Array.getElem?_append_left (by simpa using hlt)]
    simpa using h2
/-- What a result variable holds. -/
inductive ResIs (P : Program) (env : List (Nat × Value)) (w0 w : World) (L : List Res) : ResultVar → Value → Prop
  | tmp {t v} (h : look t env = some v) : ResIs P env w0 w L (.tmp t) v
  | cell {t T T' b v} {cs : List Value} {i : Nat} (h : look t env = some (.pointer (some ⟨b, 0, none⟩))) (hi : L[i]? = some (.box b T' cs)) (hv : loadVal P T cs 0 = some v) : ResIs P env w0 w L (.cell t T) v
inductive AllRes (P : Program) (env : List (Nat × Value)) (w0 w : World) (L : List Res) : List ResultVar → List Value → Prop
  | nil : AllRes P env w0 w L [] []
  | cons {r v rs vs} (h : ResIs P env w0 w L r v) (t : AllRes P env w0 w L rs vs) : AllRes P env w0 w L (r :: rs) (v :: vs)
def tupleOf : List Value → Value
  | [v] => v
  | vs => .tuple vs.toArray
def resSem (tmps : Array Value) : ResultVar → Sem Value
  | .tmp t => pure (tmps.getD t undef)
  | .cell x t => do loadVar t (← asAddr (tmps.getD x undef))
theorem results_eq (fn : Func) (tmps : Array Value) : results fn tmps = (do let vs ← fn.results.mapM (resSem tmps); pure (if h : vs.size = 1 then vs[0] else .tuple vs)) := by
  unfold results
  congr 2
theorem run_results (hE : Env N a env) (hS : Sep Bs w0 w L) : ∀ {rs : List ResultVar} {vs : List Value}, AllRes P env w0 w L rs vs → (rs.mapM (resSem a.tmps)).run P w = .ok vs w
  | [], [], .nil => rfl
  | r :: rs, v :: vs, .cons h t => by
    have ih := run_results hE hS t
    rw [List.mapM_cons, Sem.run_bind]
    cases h with
    | @tmp t _ hl =>
      have : a.tmps.getD t undef = v := by rw [Array.getD_eq_getD_getElem?, hE.get _ _ hl]; rfl
      simp only [resSem, this, Sem.run_pure, Result.andThen_ok, Sem.run_bind, ih]
    | @cell t T T' b _ cs i hl hi hv =>
      have : a.tmps.getD t undef = .pointer (some ⟨b, 0, none⟩) := by rw [Array.getD_eq_getD_getElem?, hE.get _ _ hl]; rfl
      have hload := run_loadVal (P := P) (base := 0) hv (hS.box_cell hi)
      rw [Nat.zero_add] at hload
      have has : (asAddr (.pointer (some ⟨b, 0, none⟩))).run P w = .ok ⟨b, 0, none⟩ w := rfl
      have h1 : (resSem a.tmps (.cell t T)).run P w = .ok v w := by
        simp only [resSem, this, Sem.run_bind, has, Result.andThen_ok, hload]
      rw [h1]
      simp only [Sem.run_pure, Result.andThen_ok, Sem.run_bind, ih]
theorem run_out {fn : Func} {rs : List ResultVar} {vs : List Value} (hfn : fn.results = rs.toArray) (hE : Env N a env) (hS : Sep Bs w0 w L) (h : AllRes P env w0 w L rs vs) : (results fn a.tmps).run P w = .ok (tupleOf vs) w := by
  have hm := run_results hE hS h
  rw [results_eq, hfn, List.mapM_toArray, Sem.run_bind]
  have : ((Functor.map List.toArray (rs.mapM (resSem a.tmps))).run P w) = .ok vs.toArray w := by
    rw [map_eq_pure_bind, Sem.run_bind, hm]; rfl
  rw [this]
  simp only [Result.andThen_ok, Sem.run_pure]
  congr 1
  match vs with
  | [] => rfl
  | [v] => rfl
  | v :: u :: r => simp [tupleOf]
theorem out {fn : Func} {R : Value → World → Prop} {rs : List ResultVar} {vs : List Value} (hfn : fn.results = rs.toArray) (hE : Env N a env) (hS : Sep Bs w0 w L) (h : AllRes P env w0 w L rs vs) (hR : R (tupleOf vs) w) :
    bodyPost P fn (fun e w' => ∃ v, e = .returned v ∧ R v w') .ret a w :=
  ⟨hE.defers, _, run_out hfn hE hS h, _, rfl, hR⟩
theorem outN {fn : Func} {R : Value → World → Prop} {rs : List ResultVar} {vs : List Value} (hfn : fn.results = rs.toArray) (hE : Env N a env) (hS : Sep Bs w0 w L) (h : AllRes P env w0 w L rs vs) (hR : R (tupleOf vs) w) :
    bodyPost P fn (fun e w' => ∃ v, e = .returned v ∧ R v w') .normal a w :=
  ⟨hE.defers, _, run_out hfn hE hS h, _, rfl, hR⟩

/-! ### Tests, joins, loops -/
theorem c_true {t : Nat} {b : Bool} {x y : Code} (hE : Env N a env) (ht : look t env = some (.bool b)) (hb : b = true) (h : x.wp P Q a w) : (Code.cond (.tmp t) x y).wp P Q a w :=
  wp_cond_true (by rw [hE.eval (x := .tmp t) ht, hb]) h
theorem c_false {t : Nat} {b : Bool} {x y : Code} (hE : Env N a env) (ht : look t env = some (.bool b)) (hb : b = false) (h : y.wp P Q a w) : (Code.cond (.tmp t) x y).wp P Q a w :=
  wp_cond_false (by rw [hE.eval (x := .tmp t) ht, hb]) h
/-- The ways through x meet again ahead of y. -/
theorem s_join {x y : Code} (J : Act → World → Prop) (hy : ∀ a w, J a w → y.wp P Q a w) (hx : x.wp P (Exit.then J Q) a w) : (Code.seq x y).wp P Q a w :=
  wp_seq (wp_mono hx fun e a w h => by cases e <;> first | exact hy _ _ h | exact h)
/-- .. behind a block. -/
theorem b_join {id : Nat} {c : Code} (J : Act → World → Prop) (hy : ∀ a w, J a w → Q .normal a w) (hx : c.wp P (fun e a w => match e with | .normal => J a w | .exit i => if i = id then J a w else Q (.exit i) a w | e => Q e a w) a w) : (Code.block id c).wp P Q a w :=
  wp_block (wp_mono hx fun e a w h => by
    cases e with
    | normal => exact hy _ _ h
    | exit i => simp only [Exit.inBlock] at h ⊢; split at h <;> rename_i hc <;> simp only [hc, if_true, if_false] <;> first | exact hy _ _ h | exact h
    | _ => exact h)
theorem r_list {id : Nat} {l : List Oper} (h : wpList P l.toArray Q l a w) : (Code.region id l.toArray false).wp P Q a w := wp_region_lit h

inductive Step (σ β : Type) where
  | next (s : σ)
  | done (b : β)
/-- A loop, so many rounds at the most. -/
def loopF {σ β : Type} (body : σ → Option (Step σ β)) : Nat → σ → Option β
  | 0, _ => none
  | n + 1, s => match body s with
    | none => none
    | some (.next s') => loopF body n s'
    | some (.done b) => some b
/-- More rounds than any loop takes. -/
def BIG : Nat := 18446744073709551616
theorem loop_rule {σ β : Type} {body : σ → Option (Step σ β)} {n0 : Nat} {s0 : σ} {out : β} {c : Code} (hF : loopF body n0 s0 = some out) (R : σ → Act → World → Prop) (h0 : R s0 a w)
    (round : ∀ s a w, R s a w → ∀ st, body s = some st → (∀ b, st = .done b → b = out) → c.wp P (Exit.then (fun a' w' => ∃ s', st = .next s' ∧ R s' a' w') Q) a w) : (Code.loop c).wp P Q a w := by
  refine wp_loop_ghost (fun n a w => ∃ s, loopF body n s = some out ∧ R s a w) n0 ⟨s0, hF, h0⟩ ?_
  rintro n a w ⟨s, hs, hR⟩
  cases n with
  | zero => cases hs
  | succ n =>
    simp only [loopF] at hs
    cases hb : body s with
    | none => rw [hb] at hs; cases hs
    | some st =>
      rw [hb] at hs
      refine wp_mono (round s a w hR st hb fun b hst => ?_) fun e a' w' h => ?_
      · subst hst; simpa using hs
      · cases e with
        | normal =>
          obtain ⟨s', hst, hR'⟩ := h
          subst hst
          exact ⟨n, Nat.lt_succ_self n, s', hs, hR'⟩
        | _ => exact h

/-! ### Regions that draw their order -/
section
variable {l : List Oper} {tl : List Nat} {W : World} {i : Nat} {rest ord : List (Nat × Bool)} {o : Oper}
theorem mx_pure (hE : Env N a env) (ho : l[i]? = some o) (hg : gate l env o = some true) (d : Nat) (hd : o.dst = some d) (hN : Nat.blt d N = true) (v : Value) (hv : evalOp P env o = some (.value v))
    (h : ∀ a', Env N a' ((d, v) :: env) → wpMix P l.toArray tl W Q rest a' w) : wpMix P l.toArray tl W Q ((i, false) :: rest) a w :=
  wpMix_quiet o ho fun K hK => by
    rw [if_pos (gate_wanted hE hg)]
    exact ⟨v, fun X e => by rw [evalOp_run hE hv]; exact ⟨rfl, rfl⟩, by rw [hd]; exact hK _ (h _ (hE.put hN v))⟩
theorem mx_run (hE : Env N a env) (ho : l[i]? = some o) (hg : gate l env o = some true) (d : Nat) (hd : o.dst = some d) (hN : Nat.blt d N = true) (v : Value) (hr : ∀ w', Ext W w' → (execOp a.eval o).run P w' = .ok (.value v) w')
    (h : ∀ a', Env N a' ((d, v) :: env) → wpMix P l.toArray tl W Q rest a' w) : wpMix P l.toArray tl W Q ((i, false) :: rest) a w :=
  wpMix_quiet o ho fun K hK => by
    rw [if_pos (gate_wanted hE hg)]
    exact ⟨v, fun X e => by rw [hr _ ⟨X, e, rfl⟩]; exact ⟨rfl, rfl⟩, by rw [hd]; exact hK _ (h _ (hE.put hN v))⟩
theorem mx_not (hE : Env N a env) (ho : l[i]? = some o) (hg : gate l env o = some false) (d : Nat) (hd : o.dst = some d) (hN : Nat.blt d N = true)
    (h : ∀ a', Env N a' ((d, undef) :: env) → wpMix P l.toArray tl W Q rest a' w) : wpMix P l.toArray tl W Q ((i, false) :: rest) a w :=
  wpMix_quiet o ho fun K hK => by
    rw [if_neg (by rw [gate_wanted hE hg]; exact Bool.false_ne_true), hd]
    exact hK _ (h _ (hE.put hN undef))
theorem mx_call (hE : Env N a env) (ho : l[i]? = some o) (hg : gate l env o = some true) (d : Nat) (hd : o.dst = some d) (hN : Nat.blt d N = true) (f : FuncId) (args : Array Value) (hv : evalOp P env o = some (.enter f args)) (v : Value)
    (hc : ∀ w', Ext W w' → Ret P f args w' fun u w'' => u = v ∧ Ext w' w'')
    (h : ∀ a', Env N a' ((d, v) :: env) → wpMix P l.toArray tl W Q rest a' w) : wpMix P l.toArray tl W Q ((i, false) :: rest) a w :=
  wpMix_quiet o ho fun K hK => by
    rw [if_pos (gate_wanted hE hg)]
    refine ⟨v, fun X e => ?_, by rw [hd]; exact hK _ (h _ (hE.put hN v))⟩
    rw [evalOp_run hE hv]
    refine ⟨rfl, Calls.mono (hc _ ⟨X, e, rfl⟩) fun en w'' ⟨u, hu, hv', hx⟩ => ?_⟩
    subst hv'; exact ⟨hu, hx⟩
theorem mx_loud (ho : l[i]? = some o) (h : ∀ w', Ext w w' → wpList P l.toArray (Exit.then (fun a' w'' => (tl.contains i = false → Ext W w'') ∧ wpMix P l.toArray tl W Q rest a' w'') (onlyOut Q)) [o] a w') : wpMix P l.toArray tl W Q ((i, true) :: rest) a w := by
  have ho' : l.toArray[i]? = some o := by simpa using ho
  simp only [wpMix, ho']
  exact fun X d => h _ ⟨X, d, rfl⟩
theorem mx_nil (h : ∀ w', Ext w w' → Q .normal a w') : wpMix P l.toArray tl W Q [] a w := fun X d => h _ ⟨X, d, rfl⟩
def quietB : List (Nat × Bool) → Bool
  | [] => true
  | (_, b) :: r => !b && quietB r
theorem mx_cut (n : Nat) (J : Act → Prop) (hq : quietB (ord.take n) = true) (h1 : wpMix P l.toArray tl W (fun e a _ => match e with | .normal => J a | _ => False) (ord.take n) a w)
    (h2 : ∀ a, J a → wpMix P l.toArray tl W Q (ord.drop n) a w) : wpMix P l.toArray tl W Q ord a w := by
  have key : ∀ (o1 o2 : List (Nat × Bool)) (a : Act), quietB o1 = true → wpMix P l.toArray tl W (fun e a _ => match e with | .normal => J a | _ => False) o1 a w → (∀ a, J a → wpMix P l.toArray tl W Q o2 a w) → wpMix P l.toArray tl W Q (o1 ++ o2) a w := by
    intro o1
    induction o1 with
    | nil => intro o2 a _ h1 h2; exact h2 _ (h1 #[] w.drawn)
    | cons p o1 ih =>
      intro o2 a hq h1 h2
      obtain ⟨i, b⟩ := p
      simp only [quietB, Bool.and_eq_true, Bool.not_eq_true'] at hq
      obtain ⟨rfl, hq⟩ := hq
      simp only [List.cons_append, wpMix] at h1 ⊢
      split
      · rename_i hn; rw [hn] at h1; exact h1
      · rename_i o ho
        rw [ho] at h1
        simp only at h1
        split
        · rename_i hw
          rw [if_pos hw] at h1
          obtain ⟨v, hv, hn⟩ := h1
          exact ⟨v, hv, ih o2 _ hq hn h2⟩
        · rename_i hw
          rw [if_neg hw] at h1
          exact ih o2 _ hq h1 h2
  have := key (ord.take n) (ord.drop n) a hq h1 h2
  rwa [List.take_append_drop] at this
theorem r_mix {id : Nat} (tl : List Nat) (ord : List (Nat × Bool)) (hm : P.follows .mixedOrders = true) (hB : mixB .any l.toArray tl ord = true) (h : wpMix P l.toArray tl w Q ord a w) : (Code.region id l.toArray true).wp P Q a w := wp_region_mix tl ord hm hB h
end
end
end Rt
end Go
