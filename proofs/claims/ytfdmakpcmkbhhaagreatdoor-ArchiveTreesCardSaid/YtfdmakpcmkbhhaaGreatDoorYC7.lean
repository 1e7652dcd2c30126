/-
 What the statements of this seat hang on, part 7: Hv.
-/
import Derived.Test.YtfdmakpcmkbhhaaGreatDoorYC6
namespace Go.Proofs.YtfdmakpcmkbhhaaGreatDoor
open Go.Rt Go.RowKit
theorem okNode_all {n : api_Node} (h : okNode n = true) : okMode n.Mode_ = true ∧ (0 ≤ n.Vers_ ∧ n.Vers_ ≤ 2147483647) ∧ (0 ≤ n.Atime_ ∧ n.Atime_ ≤ 1099511627776) ∧ (0 ≤ n.Mtime_ ∧ n.Mtime_ ≤ 1099511627776) ∧ n.Uid_.length ≤ 64 ∧ n.Gid_.length ≤ 64 ∧ n.Muid_.length ≤ 64 ∧ n.Data_.length ≤ 65536 ∧ (hasI n.Mode_ 31 = true → n.Data_ = []) := by
 unfold okNode at h
 simp only [Bool.and_eq_true, decide_eq_true_eq, Bool.or_eq_true, Bool.not_eq_true', beq_iff_eq] at h
 obtain ⟨⟨⟨⟨⟨⟨h1, h2⟩, h3⟩, h4⟩, h5⟩, h6⟩, h7⟩ := h
 refine ⟨h1, h2, h3, h4, ?_, ?_, ?_, ?_, fun hd => ?_⟩
 all_goals first | omega | (rcases h7 with h7 | h7 <;> simp_all)
theorem OkT.name {l : List api_Node} {next : Int} (h : OkT l next) {n : api_Node} (hn : n ∈ l) : n.Name_.length ≤ 64 := by
 by_cases h1 : n.Id_ = 1
 ·obtain ⟨r, q, rfl, h2, _, h3, _⟩ := h.root
  have : n = r := id_inj h.srt hn List.mem_cons_self (by rw [h1, h2])
  rw [this, h3]
  decide
 ·have := h.nam n hn h1
  unfold okName at this
  simp only [Bool.and_eq_true, decide_eq_true_eq] at this
  exact this.1.1.1.2
theorem OkT.parent {l : List api_Node} {next : Int} (h : OkT l next) {n : api_Node} (hn : n ∈ l) : 1 ≤ n.Parent_ ∧ n.Parent_ ≤ n.Id_ := by
 by_cases h1 : n.Id_ = 1
 ·obtain ⟨r, q, rfl, h2, h4, h3, _⟩ := h.root
  have : n = r := id_inj h.srt hn List.mem_cons_self (by rw [h1, h2])
  rw [this, h2, h4]
  decide
 ·obtain ⟨p, hp, e, hlt, _⟩ := h.par n hn h1
  have := h.ge hp
  omega
theorem OkT.ent {l : List api_Node} {next : Int} (h : OkT l next) {n : api_Node} (hn : n ∈ l) {r : api_Root} (hr : (0 ≤ r.Length_ ∧ r.Length_ ≤ 1048576) ∧ (0 ≤ r.Levels_ ∧ r.Levels_ ≤ 2) ∧ r.Score_.length = 32) : EntOK n r := by
 obtain ⟨_, h2, h3, h4, h5, h6, h7, _, _⟩ := okNode_all (h.flds n hn)
 have hi := h.ge hn
 have hx := h.nxt n hn
 have h8 := h.nx2
 have hp := h.parent hn
 have hm := h.mode hn
 exact ⟨by omega, by omega, by omega, hm, h3.1, h4.1, h.name hn, h5, h6, h7, by omega, by omega, hr.2.2⟩
def finP (s : api_Store) (k : Int) (d : Str) : api_Store × api_Root × Int := if (putS s k d).err = 0 then ((putS s k d).store, api_Root.mk (putS s k d).score (d.length : Int) ((hN (nP d.length) : Nat) : Int), 0) else (s, root0, (putS s k d).err)
def fPN (l : List api_Node) (rec : api_Store → api_Node → api_Store × api_Root × Int) (a : Str × api_Store) (id : Int) : (Str × api_Store) ⊕ Int :=
 if (rec a.2 (nodeT l id).1).2.2 = 0 then .inl (a.1 ++ encE (nodeT l id).1 (rec a.2 (nodeT l id).1).2.1, (rec a.2 (nodeT l id).1).1) else .inr (rec a.2 (nodeT l id).1).2.2
def putN (l : List api_Node) : Nat → api_Store → api_Node → api_Store × api_Root × Int
 | 0, s, _ => (s, root0, 2)
 | f + 1, s, n => if hasI n.Mode_ 31 then outS (fun a => finP a.2 3 a.1) (fun e => (s, root0, e)) (runS (fPN l (putN l f)) ([], s) (childT l n.Id_)) else finP s 1 n.Data_
def RootF (r : api_Root) : Prop := (0 ≤ r.Length_ ∧ r.Length_ ≤ 1048576) ∧ (0 ≤ r.Levels_ ∧ r.Levels_ ≤ 2) ∧ r.Score_.length = 32
theorem finP_ok {s : api_Store} {k : Int} {d : Str} (hk : 1 ≤ k ∧ k ≤ 4) (hs : StOK s) (hd : d.length ≤ 1048576) : StOK (finP s k d).1 ∧ StLe s (finP s k d).1 ∧ ((finP s k d).2.2 = 0 → RootF (finP s k d).2.1) := by
 unfold finP
 split
 ·rename_i he
  obtain ⟨h1, h2⟩ := upF_ok 3 hk hs (ps := pieces d)
  have h3 := put_sto hk hs hd he
  have h4 := sto_score h1 h3
  have := hN_le (nP d.length)
  exact ⟨h1, h2, fun _ => ⟨by simp only; omega, by simp only; omega, h4⟩⟩
 ·rename_i he
  exact ⟨hs, StLe.refl s, fun e => absurd e he⟩
theorem child_of {l : List api_Node} {next : Int} (h : OkT l next) {id c : Int} (hc : c ∈ childT l id) : ∃ n ∈ l, n.Id_ = c ∧ n.Parent_ = id ∧ n.Id_ ≠ 1 ∧ nodeT l c = (n, true) ∧ id < c := by
 unfold childT at hc
 obtain ⟨n, hn, rfl⟩ := List.mem_map.1 hc
 obtain ⟨h1, h2⟩ := List.mem_filter.1 hn
 simp only [Bool.and_eq_true, beq_iff_eq, bne_iff_ne, ne_eq] at h2
 obtain ⟨p, _, e, hlt, _⟩ := h.par n h1 h2.2
 exact ⟨n, h1, rfl, h2.1, h2.2, nodeT_of h.srt h1, by omega⟩
theorem childT_len (l : List api_Node) (id : Int) : (childT l id).length ≤ l.length := by
 unfold childT
 rw [List.length_map]
 exact List.length_filter_le _ _
theorem runS_list {α σ ε : Type} {f : σ → α → σ ⊕ ε} (Inv : Nat → σ → Prop) (Q : ε → Prop) : ∀ {xs : List α} {k : Nat} {s0 : σ}, Inv k s0 → (∀ i s x, x ∈ xs → Inv i s → (∀ s', f s x = .inl s' → Inv (i + 1) s') ∧ ∀ e, f s x = .inr e → Q e) →
  (∀ s, runS f s0 xs = .inl s → Inv (k + xs.length) s) ∧ ∀ e, runS f s0 xs = .inr e → Q e
 | [], k, s0, h0, _ => ⟨fun s e => by simp only [runS, Sum.inl.injEq] at e; subst e; exact h0, fun e h => by simp [runS] at h⟩
 | x :: l, k, s0, h0, h => by
  obtain ⟨h1, h2⟩ := h k s0 x List.mem_cons_self h0
  simp only [runS]
  cases hf : f s0 x with
  | inl s' =>
   obtain ⟨i1, i2⟩ := runS_list Inv Q (xs := l) (h1 s' hf) fun i s y hy => h i s y (List.mem_cons_of_mem _ hy)
   refine ⟨fun s e => ?_, i2⟩
   have := i1 s e
   rwa [show k + 1 + l.length = k + (x :: l).length by simp; omega] at this
  | inr e =>
   refine ⟨fun s e' => (by cases e'), fun e' h' => ?_⟩
   obtain rfl := Sum.inr.inj h'
   exact h2 e hf
theorem putN_ok {l : List api_Node} {next : Int} (h : OkT l next) : ∀ (f : Nat) {s : api_Store} {n : api_Node}, n ∈ l → StOK s → StOK (putN l f s n).1 ∧ StLe s (putN l f s n).1 ∧ ((putN l f s n).2.2 = 0 → RootF (putN l f s n).2.1)
 | 0, s, n, _, hs => ⟨hs, StLe.refl s, fun e => by cases e⟩
 | f + 1, s, n, hn, hs => by
  have hok := okNode_all (h.flds n hn)
  unfold putN
  split
  ·have hr := runS_list (f := fPN l (putN l f)) (fun i a => StOK a.2 ∧ StLe s a.2 ∧ a.1.length ≤ 333 * i) (fun e => e ≠ 0) (xs := childT l n.Id_) (k := 0) (s0 := ([], s)) ⟨hs, StLe.refl s, by simp⟩ fun i a id hid ⟨a1, a2, a3⟩ => by
    obtain ⟨c, hc, _, _, _, hnode, _⟩ := child_of h hid
    obtain ⟨b1, b2, b3⟩ := putN_ok h f (s := a.2) hc a1
    unfold fPN
    rw [hnode]
    simp only
    refine ⟨fun s' he => ?_, fun e he => ?_⟩
    ·split at he
     ·rename_i h0
      obtain rfl := Sum.inl.inj he
      have := (encE_len (h.ent hc (b3 h0))).1
      refine ⟨b1, a2.trans b2, ?_⟩
      simp only [List.length_append]
      omega
     ·cases he
    ·split at he
     ·cases he
     ·rename_i h0
      obtain rfl := Sum.inr.inj he
      exact h0
   cases hq : runS (fPN l (putN l f)) ([], s) (childT l n.Id_) with
   | inl a =>
    obtain ⟨a1, a2, a3⟩ := hr.1 a hq
    have := childT_len l n.Id_
    have := h.len
    obtain ⟨c1, c2, c3⟩ := finP_ok (s := a.2) (k := 3) (d := a.1) (by omega) a1 (by omega)
    exact ⟨c1, a2.trans c2, c3⟩
   | inr e => exact ⟨hs, StLe.refl s, fun h0 => absurd h0 (hr.2 e hq)⟩
  ·exact finP_ok (by omega) hs (by omega)
theorem finP_P {s : api_Store} {k : Int} {d : Str} (hk : 1 ≤ k ∧ k ≤ 4) (hs : StOK s) (hd : d.length ≤ 1048576) : ∃ q, archive_put s k d = some q ∧ q.2.2 = (finP s k d).2.2 ∧ ((finP s k d).2.2 = 0 → q = finP s k d) := by
 obtain ⟨q, h1, h2⟩ := putP hk hs hd
 refine ⟨q, h1, ?_⟩
 unfold finP
 split
 ·rename_i he
  rw [if_pos he] at h2
  exact ⟨by rw [h2], fun _ => h2⟩
 ·rename_i he
  rw [if_neg he] at h2
  obtain ⟨s', rfl⟩ := h2
  exact ⟨rfl, fun e => absurd e he⟩
theorem finP_R {s : api_Store} {k : Int} {d : Str} (hk : 1 ≤ k ∧ k ≤ 4) (hs : StOK s) (hd : d.length ≤ 1048576) : ref16_put s k d = some (finP s k d) := putR hk hs hd
def bare (n : api_Node) : api_Node := api_Node.mk n.Id_ n.Parent_ n.Vers_ n.Name_ n.Mode_ n.Uid_ n.Gid_ n.Muid_ n.Atime_ n.Mtime_ []
theorem encE_bare (n : api_Node) (r : api_Root) : encE (bare n) r = encE n r := rfl
theorem EntOK.bare {n : api_Node} {r : api_Root} (h : EntOK n r) : EntOK (bare n) r := ⟨h.id, h.par, h.vers, h.mode, h.atime, h.mtime, h.name, h.uid, h.gid, h.muid, h.len, h.lev, h.score⟩
theorem putNode_P {t : api_Tree} (h : OkT t.Nodes_ t.Next_) : ∀ (f m : Nat) {s : api_Store} {n : api_Node}, f ≤ m → n ∈ t.Nodes_ → (t.Next_ - n.Id_).toNat < f → StOK s →
  ∃ q, archive_putNode m s t n.Id_ = some q ∧ q.2.2 = (putN t.Nodes_ f s n).2.2 ∧ ((putN t.Nodes_ f s n).2.2 = 0 → q.1 = (putN t.Nodes_ f s n).1 ∧ q.2.1 = archive_entry.mk (bare n) (putN t.Nodes_ f s n).2.1)
 | 0, _, s, n, _, _, hf, _ => by omega
 | f + 1, m, s, n, hm, hn, hf, hs => by
  obtain ⟨m, rfl⟩ : ∃ m', m = m' + 1 := ⟨m - 1, by omega⟩
  have hok := okNode_all (h.flds n hn)
  have hlen := h.len
  show ∃ q, archive_putNode_S (archive_putNode m) s t n.Id_ = some q ∧ _
  unfold archive_putNode_S putN
  have hnode : tree_Node t n.Id_ = some (n, true) := by rw [tree_node_eq t n.Id_ (by omega), nodeT_of h.srt hn]
  have hdir : archive_isDir (bare n) = some (hasI n.Mode_ 31) := by
   unfold archive_isDir
   rw [← isdir_eq hok.1]
   rfl
  have fin : ∀ {s1 : api_Store} {k : Int} {d : Str}, 1 ≤ k ∧ k ≤ 4 → StOK s1 → d.length ≤ 1048576 → ∃ q, ((archive_put s1 k d).bind fun y12 => some ((y12.1, (archive_entry.mk (bare n) y12.2.1), y12.2.2))) = some q ∧ q.2.2 = (finP s1 k d).2.2 ∧ ((finP s1 k d).2.2 = 0 → q.1 = (finP s1 k d).1 ∧ q.2.1 = archive_entry.mk (bare n) (finP s1 k d).2.1) := fun hk h1 hd => by
   obtain ⟨q, h2, h3, h4⟩ := finP_P hk h1 hd
   exact ⟨_, bind_eq h2 rfl, h3, fun e => by rw [h4 e]; exact ⟨rfl, rfl⟩⟩
  cases hD : hasI n.Mode_ 31 with
  | false =>
   obtain ⟨q, h1, h2⟩ := fin (s1 := s) (k := 1) (d := n.Data_) (by omega) hs (by omega)
   rw [hD] at hdir
   exact ⟨q, bind_eq hnode (bind_eq (a := Out.fall (1, n.Data_, s)) (bind_eq hdir rfl) h1), h2⟩
  | true =>
   rw [hD] at hdir
   have hcl := childT_len t.Nodes_ n.Id_
   have hstep : ∀ (a : Str × api_Store) (id : Int), id ∈ childT t.Nodes_ n.Id_ → StOK a.2 → ∃ c ∈ t.Nodes_, nodeT t.Nodes_ id = (c, true) ∧ c.Id_ = id ∧ (t.Next_ - c.Id_).toNat < f := fun a id hid _ => by
    obtain ⟨c, hc, e, _, _, hnd, hlt⟩ := child_of h hid
    have := h.nxt c hc
    exact ⟨c, hc, hnd, e, by omega⟩
   have hlp := loop_runS (body := archive_putNode_L1 (childT t.Nodes_ n.Id_) (archive_putNode m) t) (childT t.Nodes_ n.Id_) (fun (a : Str × api_Store) id => (match fPN t.Nodes_ (putN t.Nodes_ f) a id with | .inl a' => .inl a' | .inr e => .inr (a.2, e) : (Str × api_Store) ⊕ (api_Store × Int))) (fun i a => (a.1, (i : Int), a.2, childT t.Nodes_ n.Id_)) (fun i a => StOK a.2 ∧ a.1.length ≤ 333 * i) (fun a => Out.fall (a.1, a.2)) (fun e => Out.ret (e.1, (archive_entry.mk (api_Node.mk 0 0 0 [] 0 [] [] [] 0 0 []) (api_Root.mk [] 0 0)), e.2)) ([], s) (lt_big (by omega)) ⟨hs, by simp⟩ (fun i a hi hI => ?_) (fun a hI => ?_)
   ·
    have hmap : ∀ (xs : List Int) (a : Str × api_Store), (∀ b, runS (fPN t.Nodes_ (putN t.Nodes_ f)) a xs = .inl b → runS (fun (a : Str × api_Store) id => (match fPN t.Nodes_ (putN t.Nodes_ f) a id with | .inl a' => .inl a' | .inr e => .inr (a.2, e) : (Str × api_Store) ⊕ (api_Store × Int))) a xs = .inl b) ∧ (∀ e, runS (fPN t.Nodes_ (putN t.Nodes_ f)) a xs = .inr e → ∃ s', runS (fun (a : Str × api_Store) id => (match fPN t.Nodes_ (putN t.Nodes_ f) a id with | .inl a' => .inl a' | .inr e => .inr (a.2, e) : (Str × api_Store) ⊕ (api_Store × Int))) a xs = .inr (s', e)) := fun xs => by
     induction xs with
     | nil => exact fun a => ⟨fun b e => by rw [show a = b from Sum.inl.inj e]; rfl, fun e h => (by cases h)⟩
     | cons x xs ih =>
      intro a
      simp only [runS]
      cases hf2 : fPN t.Nodes_ (putN t.Nodes_ f) a x with
      | inl a' => exact ih a'
      | inr e => exact ⟨fun b h => (by cases h), fun e' h => ⟨a.2, by rw [Sum.inr.inj h]⟩⟩
    have hinv := runS_list (f := fPN t.Nodes_ (putN t.Nodes_ f)) (fun i a => StOK a.2 ∧ a.1.length ≤ 333 * i) (fun e => e ≠ 0) (xs := childT t.Nodes_ n.Id_) (k := 0) (s0 := ([], s)) ⟨hs, by simp⟩ fun i a id hid ⟨a1, a3⟩ => by
     obtain ⟨c, hc, hnd, _, _⟩ := hstep a id hid a1
     obtain ⟨b1, b2, b3⟩ := putN_ok h f (s := a.2) hc a1
     unfold fPN
     rw [hnd]
     simp only
     refine ⟨fun s' he => ?_, fun e he => ?_⟩
     ·split at he
      ·rename_i h0
       obtain rfl := Sum.inl.inj he
       have := (encE_len (h.ent hc (b3 h0))).1
       refine ⟨b1, ?_⟩
       simp only [List.length_append]
       omega
      ·cases he
     ·split at he
      ·cases he
      ·rename_i h0
       obtain rfl := Sum.inr.inj he
       exact h0
    cases hq : runS (fPN t.Nodes_ (putN t.Nodes_ f)) ([], s) (childT t.Nodes_ n.Id_) with
    | inl a =>
     rw [(hmap _ _).1 a hq] at hlp
     obtain ⟨a1, a2⟩ := hinv.1 a hq
     obtain ⟨q, h1, h2⟩ := fin (s1 := a.2) (k := 3) (d := a.1) (by omega) a1 (by omega)
     exact ⟨q, bind_eq hnode (bind_eq (a := Out.fall (3, a.1, a.2)) (bind_eq hdir (cond_t rfl (bind_eq (tree_children_eq t n.Id_ h) (bind_eq hlp rfl)))) h1), h2⟩
    | inr e =>
     obtain ⟨s', hs'⟩ := (hmap _ _).2 e hq
     rw [hs'] at hlp
     refine ⟨_, bind_eq hnode (bind_eq (a := Out.ret (s', (archive_entry.mk (api_Node.mk 0 0 0 [] 0 [] [] [] 0 0 []) (api_Root.mk [] 0 0)), e)) (bind_eq hdir (cond_t rfl (bind_eq (tree_children_eq t n.Id_ h) (bind_eq hlp rfl)))) rfl), rfl, fun e0 => absurd e0 (hinv.2 e hq)⟩
   ·obtain ⟨a1, a2⟩ := hI
    have hid := List.getElem_mem hi
    obtain ⟨c, hc, hnd, e1, hlt⟩ := hstep a _ hid a1
    obtain ⟨q, q1, q2, q3⟩ := putNode_P h f m (s := a.2) (n := c) (by omega) hc hlt a1
    obtain ⟨b1, b2, b3⟩ := putN_ok h f (s := a.2) hc a1
    rw [e1] at q1
    unfold fPN
    rw [hnd]
    simp only
    by_cases h0 : (putN t.Nodes_ f a.2 c).2.2 = 0
    ·rw [if_pos h0]
     obtain ⟨q4, q5⟩ := q3 h0
     have hent := (h.ent hc (b3 h0)).bare
     have hel := (encE_len hent).1
     constructor
     ·unfold archive_putNode_L1
      refine cond_t (lt_t hi) (bind_eq (getI_lt hi) (bind_eq q1 (cond_f (by rw [q2, h0]; rfl) (bind_eq (a := encE c (putN t.Nodes_ f a.2 c).2.1) (by rw [q5, encode_eq hent]; rfl) (bind_eq (cat_eq ?_) ?_)))))
      ·rw [encE_bare] at hel
       show a.1.length + _ ≤ _
       omega
      ·rw [q4, w_succ (by omega)]
       rfl
     ·intro s' he
      obtain rfl := Sum.inl.inj he
      rw [encE_bare] at hel
      refine ⟨b1, ?_⟩
      simp only [List.length_append]
      omega
    ·rw [if_neg h0]
     constructor
     ·unfold archive_putNode_L1
      refine cond_t (lt_t hi) (bind_eq (getI_lt hi) (bind_eq q1 (cond_t (by rw [q2]; simpa using h0) ?_)))
      rw [q2]
      rfl
     ·intro s' he
      cases he
   ·unfold archive_putNode_L1
    exact cond_f (lt_f _) rfl
theorem putNode_R {t : api_Tree} (h : OkT t.Nodes_ t.Next_) : ∀ (f m : Nat) {s : api_Store} {n : api_Node}, f ≤ m → n ∈ t.Nodes_ → (t.Next_ - n.Id_).toNat < f → StOK s →
  ∃ q, ref16_putNode m s t n = some q ∧ q.2.2 = (putN t.Nodes_ f s n).2.2 ∧ ((putN t.Nodes_ f s n).2.2 = 0 → q.1 = (putN t.Nodes_ f s n).1 ∧ q.2.1 = encE n (putN t.Nodes_ f s n).2.1)
 | 0, _, s, n, _, _, hf, _ => by omega
 | f + 1, m, s, n, hm, hn, hf, hs => by
  obtain ⟨m, rfl⟩ : ∃ m', m = m' + 1 := ⟨m - 1, by omega⟩
  have hok := okNode_all (h.flds n hn)
  have hlen := h.len
  have hname := h.name hn
  show ∃ q, ref16_putNode_S (ref16_putNode m) s t n = some q ∧ _
  unfold ref16_putNode_S putN
  have hdir : ref10_IsDir n.Mode_ = some (hasI n.Mode_ 31) := by
   unfold ref10_IsDir
   rw [← isdir_eq hok.1]
  have fin : ∀ {s1 : api_Store} {k : Int} {d : Str}, 1 ≤ k ∧ k ≤ 4 → StOK s1 → d.length ≤ 1048576 → ((ref16_put s1 k d).bind fun y13 => (ref16_Entry n y13.2.1).bind fun y14 => some ((y13.1, y14, y13.2.2))) = some ((finP s1 k d).1, encE n (finP s1 k d).2.1, (finP s1 k d).2.2) := fun {s1 k d} hk h1 hd => by
   refine bind_eq (finP_R hk h1 hd) (bind_eq (ref_Entry_eq (by omega) (by omega) (by omega) (by omega) ?_) rfl)
   have hfo := (finP_ok hk h1 hd).2.2
   unfold finP at hfo ⊢
   split
   ·rename_i he
    rw [if_pos he] at hfo
    have := (hfo rfl).2.2
    omega
   ·simp
  cases hD : hasI n.Mode_ 31 with
  | false =>
   rw [hD] at hdir
   exact ⟨_, bind_eq hdir (cond_t rfl (fin (by omega) hs (by omega))), rfl, fun _ => ⟨rfl, rfl⟩⟩
  | true =>
   rw [hD] at hdir
   have hcl := childT_len t.Nodes_ n.Id_
   have hstep : ∀ (a : Str × api_Store) (id : Int), id ∈ childT t.Nodes_ n.Id_ → StOK a.2 → ∃ c ∈ t.Nodes_, nodeT t.Nodes_ id = (c, true) ∧ c.Id_ = id ∧ (t.Next_ - c.Id_).toNat < f := fun a id hid _ => by
    obtain ⟨c, hc, e, _, _, hnd, hlt⟩ := child_of h hid
    have := h.nxt c hc
    exact ⟨c, hc, hnd, e, by omega⟩
   have hlp := loop_runS (body := ref16_putNode_L1 t (ref16_putNode m)) (childT t.Nodes_ n.Id_) (fun (a : Str × api_Store) id => (match fPN t.Nodes_ (putN t.Nodes_ f) a id with | .inl a' => .inl a' | .inr e => .inr (a.2, e) : (Str × api_Store) ⊕ (api_Store × Int))) (fun i a => (a.1, (i : Int), a.2, childT t.Nodes_ n.Id_)) (fun i a => StOK a.2 ∧ a.1.length ≤ 333 * i) (fun a => Out.fall (a.1, a.2)) (fun e => Out.ret (e.1, [], e.2)) ([], s) (lt_big (by omega)) ⟨hs, by simp⟩ (fun i a hi hI => ?_) (fun a hI => ?_)
   ·have hmap : ∀ (xs : List Int) (a : Str × api_Store), (∀ b, runS (fPN t.Nodes_ (putN t.Nodes_ f)) a xs = .inl b → runS (fun (a : Str × api_Store) id => (match fPN t.Nodes_ (putN t.Nodes_ f) a id with | .inl a' => .inl a' | .inr e => .inr (a.2, e) : (Str × api_Store) ⊕ (api_Store × Int))) a xs = .inl b) ∧ (∀ e, runS (fPN t.Nodes_ (putN t.Nodes_ f)) a xs = .inr e → ∃ s', runS (fun (a : Str × api_Store) id => (match fPN t.Nodes_ (putN t.Nodes_ f) a id with | .inl a' => .inl a' | .inr e => .inr (a.2, e) : (Str × api_Store) ⊕ (api_Store × Int))) a xs = .inr (s', e)) := fun xs => by
     induction xs with
     | nil => exact fun a => ⟨fun b e => by rw [show a = b from Sum.inl.inj e]; rfl, fun e h => (by cases h)⟩
     | cons x xs ih =>
      intro a
      simp only [runS]
      cases hf2 : fPN t.Nodes_ (putN t.Nodes_ f) a x with
      | inl a' => exact ih a'
      | inr e => exact ⟨fun b h => (by cases h), fun e' h => ⟨a.2, by rw [Sum.inr.inj h]⟩⟩
    have hinv := runS_list (f := fPN t.Nodes_ (putN t.Nodes_ f)) (fun i a => StOK a.2 ∧ a.1.length ≤ 333 * i) (fun e => e ≠ 0) (xs := childT t.Nodes_ n.Id_) (k := 0) (s0 := ([], s)) ⟨hs, by simp⟩ fun i a id hid ⟨a1, a3⟩ => by
     obtain ⟨c, hc, hnd, _, _⟩ := hstep a id hid a1
     obtain ⟨b1, b2, b3⟩ := putN_ok h f (s := a.2) hc a1
     unfold fPN
     rw [hnd]
     simp only
     refine ⟨fun s' he => ?_, fun e he => ?_⟩
     ·split at he
      ·rename_i h0
       obtain rfl := Sum.inl.inj he
       have := (encE_len (h.ent hc (b3 h0))).1
       refine ⟨b1, ?_⟩
       simp only [List.length_append]
       omega
      ·cases he
     ·split at he
      ·cases he
      ·rename_i h0
       obtain rfl := Sum.inr.inj he
       exact h0
    cases hq : runS (fPN t.Nodes_ (putN t.Nodes_ f)) ([], s) (childT t.Nodes_ n.Id_) with
    | inl a =>
     rw [(hmap _ _).1 a hq] at hlp
     obtain ⟨a1, a2⟩ := hinv.1 a hq
     exact ⟨_, bind_eq hdir (cond_f rfl (bind_eq (ref10_children_eq t n.Id_ h) (bind_eq hlp (fin (s1 := a.2) (k := 3) (d := a.1) (by omega) a1 (by omega))))), rfl, fun _ => ⟨rfl, rfl⟩⟩
    | inr e =>
     obtain ⟨s', hs'⟩ := (hmap _ _).2 e hq
     rw [hs'] at hlp
     exact ⟨_, bind_eq hdir (cond_f rfl (bind_eq (ref10_children_eq t n.Id_ h) (bind_eq hlp rfl))), rfl, fun e0 => absurd e0 (hinv.2 e hq)⟩
   ·obtain ⟨a1, a2⟩ := hI
    have hid := List.getElem_mem hi
    obtain ⟨c, hc, hnd, e1, hlt⟩ := hstep a _ hid a1
    obtain ⟨q, q1, q2, q3⟩ := putNode_R h f m (s := a.2) (n := c) (by omega) hc hlt a1
    obtain ⟨b1, b2, b3⟩ := putN_ok h f (s := a.2) hc a1
    have hnode : ref10_Node t (childT t.Nodes_ n.Id_)[i] = some (c, true) := by rw [ref10_node_eq t _ (by omega), hnd]
    unfold fPN
    rw [hnd]
    simp only
    by_cases h0 : (putN t.Nodes_ f a.2 c).2.2 = 0
    ·rw [if_pos h0]
     obtain ⟨q4, q5⟩ := q3 h0
     have hel := (encE_len (h.ent hc (b3 h0))).1
     constructor
     ·unfold ref16_putNode_L1
      refine cond_t (lt_t hi) (bind_eq (getI_lt hi) (bind_eq hnode (bind_eq q1 (cond_f (by rw [q2, h0]; rfl) (bind_eq (a := a.1 ++ encE c (putN t.Nodes_ f a.2 c).2.1) (by rw [q5]; exact cat_eq (show a.1.length + (encE c (putN t.Nodes_ f a.2 c).2.1).length ≤ _ by omega)) ?_)))))
      rw [q4, w_succ (by omega)]
      rfl
     ·intro s' he
      obtain rfl := Sum.inl.inj he
      refine ⟨b1, ?_⟩
      simp only [List.length_append]
      omega
    ·rw [if_neg h0]
     constructor
     ·unfold ref16_putNode_L1
      refine cond_t (lt_t hi) (bind_eq (getI_lt hi) (bind_eq hnode (bind_eq q1 (cond_t (by rw [q2]; simpa using h0) ?_))))
      rw [q2]
      rfl
     ·intro s' he
      cases he
   ·unfold ref16_putNode_L1
    exact cond_f (lt_f _) rfl
def headT (t : api_Tree) (n : api_Node) (r : api_Root) : Str := leB t.Next_ 4 ++ leB (t.Nodes_.length : Int) 4 ++ encE n r
def rootN (l : List api_Node) : api_Node := l.headD zeroN
@[irreducible] def putT (l : List api_Node) (s : api_Store) : api_Store × api_Root × Int := putN l BIG s (rootN l)
theorem putT_eq (l : List api_Node) (s : api_Store) : putN l BIG s (rootN l) = putT l s := by unfold putT; rfl
def treeS (s : api_Store) (t : api_Tree) : api_Store × Str × Int :=
 if (putT t.Nodes_ s).2.2 = 0 then
  (if (putB (putT t.Nodes_ s).1 4 (headT t (rootN t.Nodes_) (putT t.Nodes_ s).2.1)).2.2 = 0 then putB (putT t.Nodes_ s).1 4 (headT t (rootN t.Nodes_) (putT t.Nodes_ s).2.1) else (s, [], (putB (putT t.Nodes_ s).1 4 (headT t (rootN t.Nodes_) (putT t.Nodes_ s).2.1)).2.2))
 else (s, [], (putT t.Nodes_ s).2.2)
theorem triple_eta {α β : Type} {q : α × β × Int} (h : q.2.2 = 0) : (q.1, q.2.1, (0 : Int)) = q := by rw [← h]
theorem root_of {l : List api_Node} {next : Int} (h : OkT l next) : rootN l ∈ l ∧ (rootN l).Id_ = 1 ∧ l[0]? = some (rootN l) ∧ hasI (rootN l).Mode_ 31 = true := by
 obtain ⟨r, q, rfl, h2, _, _, h5⟩ := h.root
 exact ⟨List.mem_cons_self, h2, rfl, h5⟩
theorem headT_len {t : api_Tree} {n : api_Node} {r : api_Root} (h : EntOK n r) : (headT t n r).length ≤ 341 := by
 have := (encE_len h).1
 simp only [headT, List.length_append, leB_len]
 omega
theorem fuel_big {t : api_Tree} (h : OkT t.Nodes_ t.Next_) {n : api_Node} (hn : n ∈ t.Nodes_) : (t.Next_ - n.Id_).toNat < BIG := by
 have h1 := h.ge hn
 have h2 := h.nx2
 exact lt_big (by omega)
theorem PutTree_eq {s : api_Store} {t : api_Tree} (hs : StOK s) (h : OkT t.Nodes_ t.Next_) (hr : tree_Right t = some true) : archive_PutTree s t = some (treeS s t) := by
 obtain ⟨r1, r2, r3, r4⟩ := root_of h
 obtain ⟨q, q1, q2, q3⟩ := putNode_P h BIG BIG (s := s) (n := rootN t.Nodes_) (Nat.le_refl _) r1 (fuel_big h r1) hs
 obtain ⟨b1, b2, b3⟩ := putN_ok h BIG (s := s) r1 hs
 rw [putT_eq] at q2 q3 b1 b3
 have hown := own_eq (s := s) (by have := hs.size; omega)
 have hlen := h.len
 have hnx := h.nx2
 have hge := h.ge r1
 have hnt := h.nxt _ r1
 rw [r2] at q1
 unfold archive_PutTree treeS
 refine bind_eq hr (cond_f rfl (bind_eq q1 ?_))
 generalize putT t.Nodes_ s = R at *
 by_cases h0 : R.2.2 = 0
 ·rw [if_pos h0]
  obtain ⟨q4, q5⟩ := q3 h0
  have hent := h.ent r1 (b3 h0)
  have hel := (encE_len hent).1
  have hput := Put_eq (s := R.1) (k := 4) (d := headT t (rootN t.Nodes_) R.2.1) (by omega) (by have := b1.size; omega) (by have := headT_len (t := t) hent; omega)
  refine cond_f (by rw [q2, h0]; rfl) (bind_eq (octet_put_eq t.Next_ 4 (by omega) (by omega) (by omega) (fun _ => by show t.Next_ < (4294967296 : Int); omega)) (bind_eq (octet_put_eq (t.Nodes_.length : Int) 4 (by omega) (by omega) (by omega) (fun _ => by show (t.Nodes_.length : Int) < (4294967296 : Int); omega)) (bind_eq (a := leB t.Next_ 4 ++ leB (t.Nodes_.length : Int) 4) (cat_eq (by simp [leB_len])) (bind_eq (a := encE (rootN t.Nodes_) R.2.1) (by rw [q5, encode_eq hent.bare]; rfl) (bind_eq (a := headT t (rootN t.Nodes_) R.2.1) (cat_eq (by simp only [List.length_append, leB_len]; omega)) ?_)))))
  rw [q4]
  refine bind_eq hput ?_
  generalize putB R.1 4 (headT t (rootN t.Nodes_) R.2.1) = B at *
  by_cases h1 : B.2.2 = 0
  ·rw [if_pos h1]
   exact cond_f (by simp [h1]) (congrArg some (triple_eta h1))
  ·rw [if_neg h1]
   exact cond_t (by simp [h1]) (bind_eq hown rfl)
 ·rw [if_neg h0]
  refine cond_t (by rw [q2]; simpa using h0) (bind_eq hown ?_)
  rw [q2]
theorem ref_PutTree_eq {s : api_Store} {t : api_Tree} (hs : StOK s) (h : OkT t.Nodes_ t.Next_) (hr : ref10_Right t = some true) : ref16_PutTree s t = some (treeS s t) := by
 obtain ⟨r1, r2, r3, r4⟩ := root_of h
 obtain ⟨q, q1, q2, q3⟩ := putNode_R h BIG BIG (s := s) (n := rootN t.Nodes_) (Nat.le_refl _) r1 (fuel_big h r1) hs
 obtain ⟨b1, b2, b3⟩ := putN_ok h BIG (s := s) r1 hs
 rw [putT_eq] at q2 q3 b1 b3
 have hg : getI t.Nodes_ 0 = some (rootN t.Nodes_) := by rw [show (0 : Int) = ((0 : Nat) : Int) from rfl, getI_nat]; exact r3
 unfold ref16_PutTree ref16_PutTree_S treeS
 refine bind_eq hr (cond_f rfl (bind_eq hg (bind_eq q1 ?_)))
 generalize putT t.Nodes_ s = R at *
 by_cases h0 : R.2.2 = 0
 ·rw [if_pos h0]
  obtain ⟨q4, q5⟩ := q3 h0
  have hent := h.ent r1 (b3 h0)
  have hel := (encE_len hent).1
  have hput := ref_Put_eq (s := R.1) (k := 4) (d := headT t (rootN t.Nodes_) R.2.1) (by omega) (by have := b1.size; omega) (by have := headT_len (t := t) hent; omega)
  refine cond_f (by rw [q2, h0]; rfl) (bind_eq (little_eq t.Next_ (w := 4) (by omega)) (bind_eq (little_eq (t.Nodes_.length : Int) (w := 4) (by omega)) (bind_eq (a := leB t.Next_ 4 ++ leB (t.Nodes_.length : Int) 4) (cat_eq (by simp [leB_len])) (bind_eq (a := headT t (rootN t.Nodes_) R.2.1) (by rw [q5, cat_eq (by simp only [List.length_append, leB_len]; omega)]; rfl) ?_))))
  rw [q4]
  refine bind_eq hput ?_
  generalize putB R.1 4 (headT t (rootN t.Nodes_) R.2.1) = B at *
  by_cases h1 : B.2.2 = 0
  ·rw [if_pos h1]
   exact cond_f (by simp [h1]) (congrArg some (triple_eta h1))
  ·rw [if_neg h1]
   exact cond_t (by simp [h1]) rfl
 ·rw [if_neg h0]
  refine cond_t (by rw [q2]; simpa using h0) ?_
  rw [q2]
theorem treeS_ok {s : api_Store} {t : api_Tree} (hs : StOK s) (h : OkT t.Nodes_ t.Next_) : StOK (treeS s t).1 ∧ StLe s (treeS s t).1 := by
 obtain ⟨r1, _⟩ := root_of h
 obtain ⟨b1, b2, _⟩ := putN_ok h BIG (s := s) r1 hs
 rw [putT_eq] at b1 b2
 unfold treeS
 generalize putT t.Nodes_ s = R at *
 split
 ·split
  ·obtain ⟨c1, c2, _⟩ := putB_ok (s := R.1) (k := 4) (d := headT t (rootN t.Nodes_) R.2.1) b1 (by omega)
   exact ⟨c1, b2.trans c2⟩
  ·exact ⟨hs, StLe.refl s⟩
 ·exact ⟨hs, StLe.refl s⟩
def smallN (i : Nat) (n : api_Node) : Bool := (((((decide (i ≥ 20)) || (decide ((n.Data_.length : Int) > 10000))) || (decide ((n.Name_.length : Int) > 1000))) || (decide ((n.Uid_.length : Int) > 1000))) || (decide ((n.Gid_.length : Int) > 1000))) || (decide ((n.Muid_.length : Int) > 1000))
theorem small_eq (t : api_Tree) (hl : t.Nodes_.length ≤ 9223372036854775807) : ∃ b, law16_small t = some b ∧ (b = true → t.Nodes_.length ≤ 20 ∧ ∀ n ∈ t.Nodes_, n.Name_.length ≤ 1000) := by
 unfold law16_small
 have h := loop_runS (body := law16_small_L1 t) t.Nodes_ (fun (a : Nat × Int) n => (if smallN a.1 n then .inr () else .inl (a.1 + 1, w64 (a.2 + (n.Data_.length : Int))) : (Nat × Int) ⊕ Unit)) (fun i a => (a.2, (i : Int))) (fun i a => a.1 = i) (fun a => Out.fall a.2) (fun _ => Out.ret false) (0, 0) (Nat.lt_of_le_of_lt hl (by decide)) rfl (fun i a hi hI => ?_) (fun a hI => ?_)
 ·have hinv := runS_list (f := fun (a : Nat × Int) n => (if smallN a.1 n then .inr () else .inl (a.1 + 1, w64 (a.2 + (n.Data_.length : Int))) : (Nat × Int) ⊕ Unit)) (fun i a => a.1 = i ∧ (i = 0 ∨ i ≤ 20)) (fun _ => True) (xs := t.Nodes_) (k := 0) (s0 := (0, 0)) ⟨rfl, .inl rfl⟩ fun i a n hn ⟨a1, a2⟩ => by
   refine ⟨fun s' he => ?_, fun _ _ => trivial⟩
   split at he
   ·cases he
   ·rename_i hs
    obtain rfl := Sum.inl.inj he
    unfold smallN at hs
    simp only [Bool.or_eq_true, decide_eq_true_eq, not_or] at hs
    exact ⟨by simp [a1], .inr (by omega)⟩
  have hall : ∀ (l : List api_Node) (a b : Nat × Int), runS (fun (a : Nat × Int) n => (if smallN a.1 n then .inr () else .inl (a.1 + 1, w64 (a.2 + (n.Data_.length : Int))) : (Nat × Int) ⊕ Unit)) a l = .inl b → ∀ n ∈ l, n.Name_.length ≤ 1000 := fun l => by
   induction l with
   | nil => intro a b _ n hn; cases hn
   | cons x l ih =>
    intro a b hb n hn
    simp only [runS] at hb
    by_cases hx : smallN a.1 x = true
    ·simp only [if_pos hx] at hb
     cases hb
    ·simp only [if_neg hx] at hb
     rcases List.mem_cons.1 hn with rfl | hn
     ·unfold smallN at hx
      simp only [Bool.or_eq_true, decide_eq_true_eq, not_or] at hx
      omega
     ·exact ih _ b hb n hn
  cases hq : runS (fun (a : Nat × Int) n => (if smallN a.1 n then .inr () else .inl (a.1 + 1, w64 (a.2 + (n.Data_.length : Int))) : (Nat × Int) ⊕ Unit)) (0, 0) t.Nodes_ with
  | inl a =>
   rw [hq] at h
   obtain ⟨_, h2⟩ := hinv.1 a hq
   exact ⟨_, bind_eq h rfl, fun _ => ⟨by omega, hall _ _ _ hq⟩⟩
  | inr e =>
   rw [hq] at h
   exact ⟨false, bind_eq h rfl, fun e => by cases e⟩
 ·constructor
  ·unfold law16_small_L1
   refine cond_t (lt_t hi) (bind_eq (getI_lt hi) ?_)
   have hsm : smallN a.1 t.Nodes_[i] = ((((((decide ((i : Int) ≥ 20)) || (decide ((t.Nodes_[i].Data_.length : Int) > 10000))) || (decide ((t.Nodes_[i].Name_.length : Int) > 1000))) || (decide ((t.Nodes_[i].Uid_.length : Int) > 1000))) || (decide ((t.Nodes_[i].Gid_.length : Int) > 1000))) || (decide ((t.Nodes_[i].Muid_.length : Int) > 1000))) := by
    unfold smallN
    rw [hI]
    congr 5
    rw [decide_eq_decide]
    omega
   simp only [← hsm]
   cases smallN a.1 t.Nodes_[i] with
   | true => rfl
   | false =>
    rw [w_succ (by omega)]
    rfl
  ·intro s' he
   split at he
   ·cases he
   ·obtain rfl := Sum.inl.inj he
    simp only [hI]
 ·unfold law16_small_L1
  exact cond_f (lt_f _) rfl
def TreeF (t : api_Tree) : Prop := t.Nodes_.length ≤ 9223372036854775807 ∧ ∀ n ∈ t.Nodes_, n.Mode_ ≤ 9223372036854775807 ∧ n.Name_.length ≤ 9223372036854775807
theorem tree_fit {t : api_Tree} (h : Fit te (.st 8) t) : TreeF t :=
 ⟨(h 0).2.1, fun n hn => ⟨((h 1).2.1.2 n hn).2.2.2.2.1.2, ((h 1).2.1.2 n hn).2.2.2.1⟩⟩
theorem archiveTrees_plain (x0 : api_Store) (x1 : api_Tree) (_ : Fit te (.st 1) x0) (h1 : Fit te (.st 8) x1) : law16_ArchiveTrees x0 x1 = some true := by
 have hf := tree_fit h1
 unfold law16_ArchiveTrees
 have hA : (law16_awake.bind fun y4 => some y4) = some true := by rw [awake_eq]; rfl
 obtain ⟨b, e1, e2⟩ := light_eq x0
 obtain ⟨c, e3, e4⟩ := small_eq x1 hf.1
 refine bind_eq e1 ?_
 cases b with
 | false => exact bind_eq (a := true) rfl (bind_eq (a := true) rfl hA)
 | true =>
  refine bind_eq (a := !c) (bind_eq e3 rfl) ?_
  cases c with
  | false => exact bind_eq (a := true) rfl hA
  | true =>
   obtain ⟨d, e5, e6⟩ := Right_iff (s := x0) (by have := (e2 rfl).1; omega)
   refine bind_eq (a := !d) (bind_eq e5 rfl) ?_
   cases d with
   | false => exact hA
   | true =>
    have hs := e6.1 rfl
    obtain ⟨hn, _⟩ := e4 rfl
    obtain ⟨p, g1, g2⟩ := tree_right_iff x1 (by omega) hf.2
    obtain ⟨r, g3, g4⟩ := ref10_right_iff x1 (by omega) hf.2
    have hpr : p = r := by rw [Bool.eq_iff_iff, g2, g4]
    subst hpr
    refine cond_f rfl ?_
    cases p with
    | true =>
     have h := g2.1 rfl
     refine bind_eq (PutTree_eq hs h g1) (bind_eq (ref_PutTree_eq hs h g3) ?_)
     have hok := (treeS_ok (t := x1) hs h).1
     exact bind_eq (Same_refl (by have := hok.size; omega)) (bind_eq (a := true) (cond_t (by simp) hA) rfl)
    | false =>
     have hown := own_eq (s := x0) (by have := hs.size; omega)
     have p1 : archive_PutTree x0 x1 = some (x0, [], 1) := by
      unfold archive_PutTree
      exact bind_eq g1 (cond_t rfl (bind_eq hown rfl))
     have p2 : ref16_PutTree x0 x1 = some (x0, [], 1) := by
      unfold ref16_PutTree ref16_PutTree_S
      exact bind_eq g3 (cond_t rfl rfl)
     refine bind_eq p1 (bind_eq p2 (bind_eq (Same_refl (s := x0) (by have := hs.size; omega)) (bind_eq (a := true) (cond_t rfl hA) rfl)))
end Go.Proofs.YtfdmakpcmkbhhaaGreatDoor
