/-
  The second engine: maps made and written. No program in sight.
-/
import Derived.Test.YtboplmpnjepdnaaGreatRh
namespace Go
namespace Rt
open Go.RowKit

section
variable {P : Program} {E : TE} {z : Fz} {g : Ga} {nx : Nat}
variable {L : Nat → Option (SV E)} {H : Nat → Option (Obj E)} {ρ : Operand → Value} {w w0 : World} {o : Oper} {R : Type} {r : R} {Bs : List Nat} {F0 : Nat → Prop}
variable {k : Option (SV E) → Chs E → Option R}
/-! ### What a block holds afterwards -/
theorem modify_set {es : Array MapEntry} {i : Nat} {e : MapEntry} {f : MapEntry → MapEntry} (he : es.toList[i]? = some e) : (es.modify i f).toList = es.toList.set i (f e) := by
  apply List.ext_getElem?
  intro j
  have he' : es[i]? = some e := by simpa using he
  rw [Array.getElem?_toList, Array.getElem?_modify, List.getElem?_set, Array.getElem?_toList]
  by_cases hij : i = j
  · subst hij
    have hlt : i < es.toList.length := (List.getElem?_eq_some_iff.1 he).1
    rw [if_pos rfl, if_pos rfl, if_pos hlt, he']
    rfl
  · rw [if_neg hij, if_neg hij]
theorem idxK_of {α : Type} {eq : α → α → Bool} (hq : ∀ x y, eq x y = true ↔ x = y) {x : α} : ∀ {ks : List α} {i : Nat}, ks.Nodup → ks[i]? = some x → idxK eq x ks = some i
  | [], _, _, h => by simp at h
  | y :: ys, 0, _, h => by
    simp at h; subst h
    simp only [idxK, (hq y y).2 rfl]
  | y :: ys, i + 1, hn, h => by
    obtain ⟨h1, h2⟩ := List.nodup_cons.1 hn
    have h' : ys[i]? = some x := by simpa using h
    have hne : eq x y = false := by
      cases he : eq x y with
      | false => rfl
      | true => rw [(hq x y).1 he] at h'; exact absurd (List.mem_of_getElem? h') h1
    simp only [idxK, hne, idxK_of hq h2 h']
theorem MapIs.put_new {kt vt : Ty} {ks : List (Den E.S kt)} {vs : List (Den E.S vt)} {es : Array MapEntry} {clock : Nat} {eq : Den E.S kt → Den E.S kt → Bool} (hq : ∀ x y, eq x y = true ↔ x = y) (h : MapIs E kt vt ks vs es clock) {x : Den E.S kt} {y : Den E.S vt} {kv v : Value} (hi : idxK eq x ks = none) (hk : valT E kt x = some kv) (hv : valT E vt y = some v) :
    MapIs E kt vt (mputK eq ks x) (mputV eq ks vs x y) (es.push ⟨kv, v, clock⟩) (clock + 1) := by
  have h1 := idxK_none hi
  have hl := h.rel.len
  rw [mputV_none hi (by rw [hl.1, hl.2])]
  unfold mputK
  rw [h1]
  refine ⟨?_, fun e he => ?_, ?_, ?_⟩
  · rw [Array.toList_push]; exact h.rel.push hk hv
  · rw [Array.toList_push] at he
    rcases List.mem_append.1 he with he | he
    · have := h.lt e he; omega
    · obtain rfl := List.mem_singleton.1 he; exact Nat.lt_succ_self _
  · rw [Array.toList_push, List.map_append]
    refine List.nodup_append.2 ⟨h.nd, by simp, fun a ha b hb => ?_⟩
    obtain ⟨e, he, rfl⟩ := List.mem_map.1 ha
    simp at hb; subst hb
    have := h.lt e he
    omega
  · refine List.nodup_append.2 ⟨h.ks, by simp, fun a ha b hb => ?_⟩
    simp at hb; subst hb
    intro hab; subst hab
    have := List.any_eq_false.1 h1 a ha
    exact this ((hq a a).2 rfl)
theorem MapIs.put_old {kt vt : Ty} {ks : List (Den E.S kt)} {vs : List (Den E.S vt)} {es : Array MapEntry} {clock : Nat} {eq : Den E.S kt → Den E.S kt → Bool} (h : MapIs E kt vt ks vs es clock) {x : Den E.S kt} {y : Den E.S vt} {v : Value} {i : Nat} {e e' : MapEntry} (hi : idxK eq x ks = some i) (he : es.toList[i]? = some e) (f : MapEntry → MapEntry) (hf : f e = e') (hkey : e'.key = e.key) (hb : e'.born = e.born) (hv : e'.val = v) (hval : valT E vt y = some v) :
    MapIs E kt vt (mputK eq ks x) (mputV eq ks vs x y) (es.modify i f) clock := by
  have h1 := (idxK_some hi).1
  have hl := h.rel.len
  rw [mputV_some hi (by rw [hl.1, hl.2])]
  unfold mputK
  rw [h1]
  have hset := modify_set (f := f) he
  rw [hf] at hset
  refine ⟨?_, fun e2 he2 => ?_, ?_, h.ks⟩
  · rw [hset]; exact h.rel.set he hkey (by rw [hv]; exact hval)
  · rw [hset] at he2
    rcases List.mem_or_eq_of_mem_set he2 with h3 | rfl
    · exact h.lt _ h3
    · rw [hb]; exact h.lt _ (List.mem_of_getElem? he)
  · rw [hset, List.map_set, hb]
    have : (es.toList.map (·.born)).set i e.born = es.toList.map (·.born) := by
      apply List.ext_getElem?
      intro j
      rw [List.getElem?_set]
      split
      · rename_i hij; subst hij
        split
        · rw [List.getElem?_map, he]; rfl
        · rename_i hlt; rw [List.getElem?_eq_none (by omega)]
      · rfl
    rw [this]; exact h.nd
/-! ### make -/
def lMakeMap (P : Program) (E : TE) (nx : Nat) (T : TypeId) {R : Type} (k : Option (SV E) → Chs E → Option R) : Option R :=
  match P.underlying T with
  | some (.map K e) => match E.ty K, E.ty e with
    | some kt, some vt => k (some (.v (.one (.mp nx)))) [(nx, some (.map T kt vt [] [] []))]
    | _, _ => none
  | _ => none
theorem lMakeMap_ok {T : TypeId} (ho : o.op = .makeMap T none) (hnx : Fresh g nx) (hH : HR P E Bs F0 w0 w z g H) (h : lMakeMap P E nx T k = some r) : Turns P E Bs F0 w0 w z g nx H ρ o true k r := by
  unfold lMakeMap at h
  split at h
  · split at h
    · rename_i kt vt _ _
      have hrun : (execOp ρ o).run P w = .ok (.value (.map (some w.heap.size))) (w.alloc (.map #[] 0)) := by
        unfold execOp
        simp only [ho, Option.map_none]
        rw [Sem.run_bind, run_makeMap]
        rfl
      refine ⟨_, _, z, g.put nx ⟨none, 0, 0, 0, w.heap.size, 0⟩, _, _, h, ⟨hrun, ⟨_, rfl, _, Ga.put_self _ _ _, rfl⟩, Fz.Le.refl z, Ga.le_put hnx.self, hnx.put _, ?_, fun _ => Ext.one w _⟩⟩
      refine hH.add (Ext.one w _) hnx.self (o := .map T kt vt [] [] []) ⟨_, _, _, Ga.put_self _ _ _, (MapKept.heap_alloc w _).1, ⟨.nil, by simp, by simp, by simp⟩, fun p hp => nomatch hp⟩ (fun q hq => ?_) fun j p hj => upH_one hj
      obtain ⟨l, h1, rfl⟩ := hq
      rw [Ga.put_self] at h1
      obtain rfl := Option.some.inj h1
      exact Nat.le_refl _
    · cases h
  · cases h
/-! ### Writing -/
theorem HR.map_turn {g' : Ga} {id : Nat} {T : TypeId} {kt vt : Ty} {ks ks' : List (Den E.S kt)} {vs vs' : List (Den E.S vt)} {foc foc' : List (Nat × Den E.S kt)} {l : Loc} {es' : Array MapEntry} {clock' : Nat} (hH : HR P E Bs F0 w0 w z g H) (hi : H id = some (.map T kt vt ks vs foc)) (h1 : g id = some l) (hlt : l.b < w.heap.size) (hg : g.Le g')
    (hm : MapIs E kt vt ks' vs' es' clock') (hf : ∀ p ∈ foc', ∃ lq, ∃ i : Nat, ∃ e : MapEntry, g' p.1 = some lq ∧ es'.toList[i]? = some e ∧ e.born = lq.n ∧ ks'[i]? = some p.2) :
    HR P E Bs F0 w0 (setMap w l.b es' clock') z g' (upH H [(id, some (.map T kt vt ks' vs' foc'))]) := by
  refine hH.turn hg (i := id) (i' := id) (C := fun q => q = l.b) (fun q hq => ⟨_, hi, l, h1, hq⟩) setMap_grow (fun q _ hq => setMap_other hq) (o' := .map T kt vt ks' vs' foc') ⟨l, es', clock', hg _ _ h1, setMap_same hlt, hm, hf⟩ (fun q hq => ?_) fun j p hj => ?_
  · obtain ⟨l2, h5, rfl⟩ := hq
    rw [hg _ _ h1] at h5; obtain rfl := Option.some.inj h5
    exact .inl rfl
  · rcases upH_one hj with ⟨rfl, rfl⟩ | ⟨h5, h6⟩
    · exact .inl ⟨rfl, rfl⟩
    · exact .inr ⟨h5, .inl h5, h6⟩
def lMapUpd (P : Program) (E : TE) (eqs : List (Nat × Nat)) (L : Nat → Option (SV E)) (H : Nat → Option (Obj E)) (T : TypeId) (m x y : Operand) {R : Type} (k : Option (SV E) → Chs E → Option R) : Option R :=
  match opS E L m, opS E L x, opS E L y, P.underlying T with
  | some (.v (.one (.mp id))), some (.v xs), some (.v ys), some (.map K _) => match H id with
    | some (.map T' kt vt ks vs _) => match eqB E kt, keyD E H kt xs, keyD E H vt ys with
      | some eq, some kx, some vy => match keyV P E eqs K kt kx, valT E vt vy with
        | some _, some _ => k none [(id, some (.map T' kt vt (mputK eq ks kx) (mputV eq ks vs kx vy) []))]
        | _, _ => none
      | _, _, _ => none
    | _ => none
  | _, _, _, _ => none
theorem lMapUpd_ok {eqs : List (Nat × Nat)} (heq : ∀ p ∈ eqs, EqFact P E p.1 p.2) {T : TypeId} {m x y : Operand} (ho : o.op = .mapUpdate T m x y) (hnx : Fresh g nx) (hρ : OpR P E z g L ρ) (hH : HR P E Bs F0 w0 w z g H) (h : lMapUpd P E eqs L H T m x y k = some r) : Turns P E Bs F0 w0 w z g nx H ρ o false k r := by
  unfold lMapUpd at h
  split at h
  · rename_i id xs ys K e hm hx hy hu
    split at h
    · rename_i T' kt vt ks vs foc hi
      split at h
      · rename_i eq kx vy he hk hv
        split at h
        · rename_i kv vv hkv hvv
          have hK := keyV_ok heq he hkv
          have ekv : ρ x = kv := valT_RT hK.val (keyD_RT hH hk (hρ x _ hx))
          have evv : ρ y = vv := valT_RT hvv (keyD_RT hH hv (hρ y _ hy))
          obtain ⟨l, h1, h2⟩ := hρ m _ hm
          obtain ⟨l', es, c, h3, h4, h5, _⟩ := hH.hold _ _ hi
          rw [h1] at h3; obtain rfl := Option.some.inj h3
          have hlt : l.b < w.heap.size := hH.hold _ _ hi |>.lt ⟨l, h1, rfl⟩
          have hlen := h5.rel.len
          have hfind := hK.find w h5.rel
          have done : ∀ (es' : Array MapEntry) (c' : Nat), (Instr.mapUpdate T (.map (some l.b)) kv vv).run P w = .ok () (setMap w l.b es' c') → MapIs E kt vt (mputK eq ks kx) (mputV eq ks vs kx vy) es' c' → Turns P E Bs F0 w0 w z g nx H ρ o false k r := fun es' c' hrun hm' => by
            refine ⟨none, _, z, g, _, _, h, ⟨?_, rfl, Fz.Le.refl z, Ga.Le.refl g, hnx.succ, hH.map_turn hi h1 hlt (Ga.Le.refl g) hm' (fun p hp => nomatch hp), fun h => by cases h⟩⟩
            unfold execOp
            simp only [ho, h2, ekv, evv]
            rw [Sem.run_bind, hrun]
            rfl
          cases hix : idxK eq kx ks with
          | none =>
            rw [hix] at hfind
            exact done _ _ (run_update_new hu h4 hK.chk hfind) (h5.put_new (eqB_iff he) hix hK.val hvv)
          | some i =>
            rw [hix] at hfind
            obtain ⟨_, yk, h6, h7⟩ := idxK_some hix
            have hi2 : i < es.size := by
              have := (List.getElem?_eq_some_iff.1 h6).1
              have := hlen.1
              simp at this
              omega
            have he2 : es.toList[i]? = some es[i] := by simp [hi2]
            have he3 : es[i]? = some es[i] := by simp [hi2]
            obtain ⟨xk, yv, h8, h9, h10, h11⟩ := h5.rel.get he2
            rw [h6] at h8; obtain rfl := Option.some.inj h8
            have hkey : es[i].key = kv := by
              have := (eqB_iff he kx yk).1 h7
              subst this
              rw [hK.val] at h10
              exact (Option.some.inj h10).symm
            have hfd : (Instr.findKey K kv es.toList).run P w = .ok (some (i, es[i].val)) w := by rw [hfind]; simp [foundAt, hi2]
            exact done _ _ (run_update_old hu h4 hK.chk hfd he3 hkey hK.same) (h5.put_old (e' := ⟨kv, vv, es[i].born⟩) hix he2 _ rfl hkey.symm rfl rfl hvv)
        · cases h
      · cases h
    · cases h
  · cases h
def lMapEnt (P : Program) (E : TE) (eqs : List (Nat × Nat)) (L : Nat → Option (SV E)) (H : Nat → Option (Obj E)) (nx : Nat) (T : TypeId) (m x : Operand) {R : Type} (k : Option (SV E) → Chs E → Option R) : Option R :=
  match opS E L m, opS E L x, P.underlying T with
  | some (.v (.one (.mp id))), some (.v xs), some (.map K e) => match H id with
    | some (.map T' kt vt ks vs _) => match eqB E kt, keyD E H kt xs, zeroX P E e vt with
      | some eq, some kx, some zx => match keyV P E eqs K kt kx, valT E vt zx with
        | some _, some _ => k (some (.tup [datV E vt (mgetD eq ks vs kx zx), .one (.mst nx)])) [(id, some (.map T' kt vt (mputK eq ks kx) (mputV eq ks vs kx (mgetD eq ks vs kx zx)) [(nx, kx)]))]
        | _, _ => none
      | _, _, _ => none
    | _ => none
  | _, _, _ => none
theorem lMapEnt_ok {eqs : List (Nat × Nat)} (heq : ∀ p ∈ eqs, EqFact P E p.1 p.2) {T : TypeId} {m x : Operand} (ho : o.op = .mapEntry T m x) (hnx : Fresh g nx) (hρ : OpR P E z g L ρ) (hH : HR P E Bs F0 w0 w z g H) (h : lMapEnt P E eqs L H nx T m x k = some r) : Turns P E Bs F0 w0 w z g nx H ρ o false k r := by
  unfold lMapEnt at h
  split at h
  · rename_i id xs K e hm hx hu
    split at h
    · rename_i T' kt vt ks vs foc hi
      split at h
      · rename_i eq kx zx he hk hz
        split at h
        · rename_i kv zv hkv hzv
          have hK := keyV_ok heq he hkv
          have ekv : ρ x = kv := valT_RT hK.val (keyD_RT hH hk (hρ x _ hx))
          obtain ⟨l, h1, h2⟩ := hρ m _ hm
          obtain ⟨l', es, c, h3, h4, h5, _⟩ := hH.hold _ _ hi
          rw [h1] at h3; obtain rfl := Option.some.inj h3
          have hlt : l.b < w.heap.size := hH.hold _ _ hi |>.lt ⟨l, h1, rfl⟩
          have hlen := h5.rel.len
          have hfind := hK.find w h5.rel
          have done : ∀ (es' : Array MapEntry) (c' born i : Nat) (v : Value) (e1 : MapEntry), (Instr.mapEntry T (.map (some l.b)) kv).run P w = .ok (.tuple #[v, .int .i64 (born : Int)]) (setMap w l.b es' c') → valT E vt (mgetD eq ks vs kx zx) = some v → MapIs E kt vt (mputK eq ks kx) (mputV eq ks vs kx (mgetD eq ks vs kx zx)) es' c' →
              es'.toList[i]? = some e1 → e1.born = born → (mputK eq ks kx)[i]? = some kx → Turns P E Bs F0 w0 w z g nx H ρ o false k r := fun es' c' born i v e1 hrun hv hm' hq1 hq2 hq3 => by
            have hp := Ga.put_self g nx (⟨none, born, 0, 0, 0, 0⟩ : Loc)
            refine ⟨_, _, z, g.put nx ⟨none, born, 0, 0, 0, 0⟩, _, .value (.tuple #[v, .int .i64 (born : Int)]), h, ⟨?_, ⟨_, rfl, [v, .int .i64 (born : Int)], rfl, .cons (datV_ok hv) (.cons ⟨_, hp, rfl⟩ .nil)⟩, Fz.Le.refl z, Ga.le_put hnx.self, hnx.put _, hH.map_turn hi h1 hlt (Ga.le_put hnx.self) hm' (fun p hpm => ?_), fun h => by cases h⟩⟩
            · unfold execOp
              simp only [ho, h2, ekv]
              rw [Sem.run_bind, hrun]
              rfl
            · obtain rfl := List.mem_singleton.1 hpm
              exact ⟨_, i, e1, hp, hq1, hq2, hq3⟩
          cases hix : idxK eq kx ks with
          | none =>
            rw [hix] at hfind
            have hv : valT E vt (mgetD eq ks vs kx zx) = some zv := by rw [mgetD_none hix]; exact hzv
            refine done _ _ c es.size zv ⟨kv, zv, c⟩ (run_entry_new hu h4 hK.chk hfind (zeroX_ok hH hz hzv w)) hv (h5.put_new (eqB_iff he) hix hK.val hv) (by simp) rfl ?_
            unfold mputK
            rw [idxK_none hix, cond_false, List.getElem?_append_right (by rw [hlen.1]; simp)]
            rw [hlen.1]; simp
          | some i =>
            rw [hix] at hfind
            obtain ⟨hany, yk, h6, h7⟩ := idxK_some hix
            have hi2 : i < es.size := by
              have := (List.getElem?_eq_some_iff.1 h6).1
              have := hlen.1
              simp at this
              omega
            have he2 : es.toList[i]? = some es[i] := by simp [hi2]
            have he3 : es[i]? = some es[i] := by simp [hi2]
            obtain ⟨xk, yv, h8, h9, h10, h11⟩ := h5.rel.get he2
            rw [h6] at h8; obtain rfl := Option.some.inj h8
            have hyk := (eqB_iff he kx yk).1 h7
            have hkey : es[i].key = kv := by
              rw [← hyk, hK.val] at h10
              exact (Option.some.inj h10).symm
            have hfd : (Instr.findKey K kv es.toList).run P w = .ok (some (i, es[i].val)) w := by rw [hfind]; simp [foundAt, hi2]
            have hv : valT E vt (mgetD eq ks vs kx zx) = some es[i].val := by rw [mgetD_some hix h9]; exact h11
            have hset := modify_set (f := fun e => { e with key := kv }) he2
            refine done _ _ es[i].born i es[i].val ⟨kv, es[i].val, es[i].born⟩ (run_entry_old hu h4 hK.chk hfd he3 hkey hK.same) hv (h5.put_old (e' := ⟨kv, es[i].val, es[i].born⟩) hix he2 _ rfl hkey.symm rfl rfl hv) ?_ rfl ?_
            · rw [hset, List.getElem?_set, if_pos rfl, if_pos (by simpa using hi2)]
            · unfold mputK
              rw [hany, cond_true, h6, hyk]
        · cases h
      · cases h
    · cases h
  · cases h
def lEntSt (E : TE) (L : Nat → Option (SV E)) (H : Nat → Option (Obj E)) (m s y : Operand) {R : Type} (k : Option (SV E) → Chs E → Option R) : Option R :=
  match opS E L m, opS E L s, opS E L y with
  | some (.v (.one (.mp id))), some (.v (.one (.mst q))), some (.v ys) => match H id with
    | some (.map T' kt vt ks vs foc) => match eqB E kt, keyD E H vt ys, foc.find? fun p => Nat.beq p.1 q with
      | some eq, some vy, some p => match valT E vt vy with
        | some _ => k none [(id, some (.map T' kt vt (mputK eq ks p.2) (mputV eq ks vs p.2 vy) []))]
        | none => none
      | _, _, _ => none
    | _ => none
  | _, _, _ => none
theorem lEntSt_ok {T : TypeId} {m s y : Operand} (ho : o.op = .entryStore T m s y) (hnx : Fresh g nx) (hρ : OpR P E z g L ρ) (hH : HR P E Bs F0 w0 w z g H) (h : lEntSt E L H m s y k = some r) : Turns P E Bs F0 w0 w z g nx H ρ o false k r := by
  unfold lEntSt at h
  split at h
  · rename_i id q ys hm hs hy
    split at h
    · rename_i T' kt vt ks vs foc hi
      split at h
      · rename_i eq vy p he hv hp
        split at h
        · rename_i vv hvv
          have evv : ρ y = vv := valT_RT hvv (keyD_RT hH hv (hρ y _ hy))
          obtain ⟨l, h1, h2⟩ := hρ m _ hm
          obtain ⟨ls, h6, h7⟩ := hρ s _ hs
          obtain ⟨l', es, c, h3, h4, h5, h8⟩ := hH.hold _ _ hi
          rw [h1] at h3; obtain rfl := Option.some.inj h3
          have hlt : l.b < w.heap.size := hH.hold _ _ hi |>.lt ⟨l, h1, rfl⟩
          have hpq : p.1 = q := Nat.eq_of_beq_eq_true (by simpa using List.find?_some hp)
          obtain ⟨lq, i, e, h9, h10, h11, h12⟩ := h8 p (List.mem_of_find?_eq_some hp)
          rw [hpq, h6] at h9; obtain rfl := Option.some.inj h9
          have hix := idxK_of (eqB_iff he) h5.ks h12
          have hrun := run_entryStore (P := P) (T := T) (w := w) (x := vv) h4 h5.nd h10
          rw [h11] at hrun
          refine ⟨none, _, z, g, _, _, h, ⟨?_, rfl, Fz.Le.refl z, Ga.Le.refl g, hnx.succ, hH.map_turn hi h1 hlt (Ga.Le.refl g) (h5.put_old (e' := ⟨e.key, vv, e.born⟩) hix h10 (fun e => { e with val := vv }) rfl rfl rfl rfl hvv) (fun p hp => nomatch hp), fun h => by cases h⟩⟩
          unfold execOp
          simp only [ho, h2, h7, evv]
          rw [Sem.run_bind]
          show ((Instr.entryStore T (.map (some l.b)) (.int .i64 (ls.n : Int)) vv).run P w).andThen _ = _
          have : (Instr.entryStore T (.map (some l.b)) (.int .i64 (ls.n : Int)) vv).run P w = .ok () (setMap w l.b (es.modify i fun e => { e with val := vv }) c) := hrun
          rw [this]
          rfl
        · cases h
      · cases h
    · cases h
  · cases h
end
end Rt
end Go
