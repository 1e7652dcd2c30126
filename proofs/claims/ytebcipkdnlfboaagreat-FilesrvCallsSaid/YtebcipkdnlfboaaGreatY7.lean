/-
  What the statements of this seat hang on, part 7: Fv Fw Fx Fy Te Fz Lw ShDl LDl ShIn LIn ShRp LRp K1 K2.
-/
import Derived.Test.YtebcipkdnlfboaaGreatY6
import Derived.KernelRfl
import Derived.Test.YtebcipkdnlfboaaGreatProg
import Derived.Shelf.Slices.Delete
import Derived.Shelf.Spec.SlicesInsertGrow
import Derived.Ground.Names2Prog
import Derived.Lib.Agree
import Derived.Shelf.Strings.Repeat
import Derived.Ground.NamesProg
namespace Go.Proofs.YtebcipkdnlfboaaGreat
open Go.Rt Go.RowKit
theorem lenD_eq {n : api_Node} (h : okNode n = true) (hm : n.Mode_ ≤ 9223372036854775807) : filesrv_length n = some (n.Data_.length : Int) := by
  unfold filesrv_length
  refine bind_eq (has_c _ hm).1 ?_
  cases hd : hasI n.Mode_ 31 with
  | true => rw [okNode_dir h hd]; rfl
  | false => rfl
def renamesS (s : api_FileSrv) (user : Str) (n : api_Node) (name : Str) : Int := bif name == [] || name == n.Name_ then 0 else bif n.Id_ == 1 then 11 else bif !(okName name) then 6 else bif !(aboveS s user n) then 11 else
  bif (findT s.Tree_.Nodes_ n.Parent_ name).2 == 0 then 7 else 0
def resizesS (s : api_FileSrv) (user : Str) (n : api_Node) (size : Int) : Int := bif size == -1 || size == (n.Data_.length : Int) then 0 else bif hasI n.Mode_ 31 then 10 else bif !(mayS s user n 2) then 11 else bif decide (size > 65536) then 4 else
  bif !(growsS s n size) then 21 else 0
def ownsS (s : api_FileSrv) (user : Str) (n : api_Node) : Bool := user == n.Uid_ || leadsU s.Users_ user n.Gid_
def regroupsS (s : api_FileSrv) (user : Str) (n : api_Node) (gid : Str) : Int := bif (gid == [] || gid == n.Gid_) || (user == n.Uid_ && memberU s.Users_ user gid) then 0 else bif leadsU s.Users_ user n.Gid_ && leadsU s.Users_ user gid then 0 else 26
def setsS (s : api_FileSrv) (user : Str) (n : api_Node) (d : api_Dir) : Int := bif d.Mode_ != -1 && !(ownsS s user n) then 11 else bif d.Mode_ != -1 && !(hasI d.Mode_ 31 == hasI n.Mode_ 31) then 27 else bif d.Mode_ != -1 && !(okMode d.Mode_) then 1 else
  bif d.Mtime_ != -1 && !(ownsS s user n) then 11 else regroupsS s user n d.Gid_
def fixedD (d : api_Dir) : Bool := ((((d.Type_ != -1 || d.Dev_ != -1) || !(decide (d.Qid_ = api_Qid.mk (-1) (-1) (-1)))) || d.Atime_ != -1) || !(d.Uid_ == [])) || !(d.Muid_ == [])
def changesN (s : api_FileSrv) (user : Str) (n : api_Node) (d : api_Dir) : Int := bif checkR d != 0 then checkR d else bif fixedD d then 27 else bif renamesS s user n d.Name_ != 0 then renamesS s user n d.Name_ else bif resizesS s user n d.Length_ != 0 then resizesS s user n d.Length_ else setsS s user n d
def changesS (s : api_FileSrv) (user : Str) (id : Int) (d : api_Dir) : Int := bif fileC s user id != 0 then fileC s user id else changesN s user (nodeS s id) d
def DirB (d : api_Dir) : Prop := d.Qid_.Type_ ≤ 9223372036854775807 ∧ d.Mode_ ≤ 9223372036854775807 ∧ d.Name_.length ≤ 9223372036854775807
theorem renames_eq {s : api_FileSrv} (f : FileOK s) (z : SizeOK s) (user : Str) (n : api_Node) (name : Str) (hl : name.length ≤ 9223372036854775807) : filesrv_renames s user n name = some (renamesS s user n name) ∧ ref13_renames s user n name = some (renamesS s user n name) := by
  unfold filesrv_renames ref13_renames renamesS
  cases h1 : name == [] || name == n.Name_ with
  | true => exact ⟨rfl, rfl⟩
  | false =>
    rw [tree_Find_eq _ _ _ f.tr, ref10_Find_eq _ _ _ f.tr, path_valid _ hl, ref03_valid _ hl, above_eq f z, ref_may_eq f z]
    simp only [cond_false, Option.bind_some]
    unfold aboveS bne
    cases n.Id_ == 1 <;> cases okName name <;> cases isS s n.Parent_ <;> cases mayS s user (nodeS s n.Parent_) 2 <;> cases (findT s.Tree_.Nodes_ n.Parent_ name).2 == 0 <;> exact ⟨rfl, rfl⟩
theorem resizes_eq {s : api_FileSrv} (f : FileOK s) (z : SizeOK s) (user : Str) {id : Int} (hi : isS s id = true) (size : Int) : filesrv_resizes s user (nodeS s id) size = some (resizesS s user (nodeS s id) size) ∧ ref13_resizes s user (nodeS s id) size = some (resizesS s user (nodeS s id) size) := by
  have hm := mode_hm f id
  unfold filesrv_resizes ref13_resizes resizesS
  rw [lenD_eq (f.tr.flds _ (node_mem hi)) hm, (has_c _ hm).1, (has_r _ hm).1, may_eq z user hm, node_id hi, ref_may_eq f z, hi, grows_eq z, ref_grows_eq z]
  simp only [Option.bind_some, Bool.true_and]
  cases size == -1 <;> cases size == ((nodeS s id).Data_.length : Int) <;> cases hasI (nodeS s id).Mode_ 31 <;> cases mayS s user (nodeS s id) 2 <;> cases decide (size > 65536) <;> cases growsS s (nodeS s id) size <;> exact ⟨rfl, rfl⟩
theorem sets_eq {s : api_FileSrv} (z : SizeOK s) (user : Str) (n : api_Node) (d : api_Dir) (hn : n.Mode_ ≤ 9223372036854775807) (hd : d.Mode_ ≤ 9223372036854775807) : ref13_sets s user n d = some (setsS s user n d) := by
  unfold ref13_sets ref13_owns setsS regroupsS ownsS
  rw [ref05_leads_eq _ _ _ z.ul z.um, ref05_leads_eq _ _ _ z.ul z.um, ref05_member_eq _ _ _ z.ul z.um, (has_r _ hn).1, (has_r _ hd).1, made_eq _ hd]
  simp only [Option.bind_some]
  cases user == n.Uid_ <;> cases leadsU s.Users_ user n.Gid_ <;> cases d.Mode_ != -1 <;> cases hasI d.Mode_ 31 == hasI n.Mode_ 31 <;> cases okMode d.Mode_ <;> cases d.Mtime_ != -1 <;> cases d.Gid_ == [] <;> cases d.Gid_ == n.Gid_ <;> cases memberU s.Users_ user d.Gid_ <;> cases leadsU s.Users_ user d.Gid_ <;> rfl
theorem regroups_eq {s : api_FileSrv} (z : SizeOK s) (user : Str) (n : api_Node) (gid : Str) : filesrv_regroups s user n gid = some (regroupsS s user n gid) := by
  unfold filesrv_regroups regroupsS
  rw [user_leads_eq _ _ _ z.ul z.um, user_leads_eq _ _ _ z.ul z.um, user_member_eq _ _ _ z.ul z.um]
  simp only [Option.bind_some]
  cases user == n.Uid_ <;> cases leadsU s.Users_ user n.Gid_ <;> cases gid == [] <;> cases gid == n.Gid_ <;> cases memberU s.Users_ user gid <;> cases leadsU s.Users_ user gid <;> rfl
theorem changes_eq {s : api_FileSrv} (f : FileOK s) (z : SizeOK s) (user : Str) {id : Int} (hi : isS s id = true) (d : api_Dir) (hd : DirB d) : filesrv_changes s user (nodeS s id) d = some (changesN s user (nodeS s id) d) := by
  have hm := mode_hm f id
  unfold filesrv_changes changesN
  refine bind_eq (stat_check_eq d hd.1 hd.2.1 hd.2.2) ?_
  cases checkR d != 0 with
  | true => rfl
  | false =>
    refine cond_f rfl (bind_eq rfl ?_)
    show (bif fixedD d then _ else _) = some (bif fixedD d then _ else _)
    cases fixedD d with
    | true => rfl
    | false =>
      refine cond_f rfl (bind_eq (renames_eq f z user _ _ hd.2.2).1 ?_)
      show (bif renamesS s user (nodeS s id) d.Name_ != 0 then _ else _) = some (bif renamesS s user (nodeS s id) d.Name_ != 0 then _ else _)
      cases renamesS s user (nodeS s id) d.Name_ != 0 with
      | true => rfl
      | false =>
        refine cond_f rfl (bind_eq (resizes_eq f z user hi _).1 ?_)
        show (bif resizesS s user (nodeS s id) d.Length_ != 0 then _ else _) = some (bif resizesS s user (nodeS s id) d.Length_ != 0 then _ else _)
        cases resizesS s user (nodeS s id) d.Length_ != 0 with
        | true => rfl
        | false =>
          rw [user_leads_eq _ _ _ z.ul z.um, (has_c _ hm).1, (has_c _ hd.2.1).1, creatable_eq _ hd.2.1, regroups_eq z]
          unfold setsS
          simp only [Option.bind_some, cond_false]
          unfold ownsS
          cases user == (nodeS s id).Uid_ <;> cases leadsU s.Users_ user (nodeS s id).Gid_ <;> cases d.Mode_ != -1 <;> cases hasI d.Mode_ 31 == hasI (nodeS s id).Mode_ 31 <;> cases okMode d.Mode_ <;> cases d.Mtime_ != -1 <;> rfl
theorem ref_changes_eq {s : api_FileSrv} (f : FileOK s) (z : SizeOK s) (user : Str) (id : Int) (hu : user.length ≤ 9223372036854775807) (d : api_Dir) (hd : DirB d) : ref13_changes s user id d = some (changesS s user id d) := by
  unfold ref13_changes changesS fileC
  refine bind_eq (ref10_node_eq _ _ (nl2 z)) (bind_eq (ref05_valid _ hu) ?_)
  cases vU user with
  | false => rfl
  | true =>
    refine cond_f rfl ?_
    cases hi : (nodeT s.Tree_.Nodes_ id).2 with
    | false => unfold isS; rw [hi]; rfl
    | true =>
      have hi' : isS s id = true := hi
      rw [hi']
      show _ = some (changesN s user (nodeS s id) d)
      unfold changesN
      refine cond_f rfl (bind_eq (ref07_check_eq d hd.2.2) ?_)
      cases checkR d != 0 with
      | true => rfl
      | false =>
        refine cond_f rfl (bind_eq (a := (d.Type_ != -1 || d.Dev_ != -1) || !(decide (d.Qid_ = api_Qid.mk (-1) (-1) (-1)))) (by cases d.Type_ != -1 || d.Dev_ != -1 <;> rfl) ?_)
        show (bif fixedD d then _ else _) = some (bif fixedD d then _ else _)
        cases fixedD d with
        | true => rfl
        | false =>
          refine cond_f rfl (bind_eq (renames_eq f z user _ _ hd.2.2).2 ?_)
          show (bif renamesS s user (nodeS s id) d.Name_ != 0 then _ else _) = some (bif renamesS s user (nodeS s id) d.Name_ != 0 then _ else _)
          cases renamesS s user (nodeS s id) d.Name_ != 0 with
          | true => rfl
          | false =>
            refine cond_f rfl (bind_eq (resizes_eq f z user hi' _).2 ?_)
            show (bif resizesS s user (nodeS s id) d.Length_ != 0 then _ else _) = some (bif resizesS s user (nodeS s id) d.Length_ != 0 then _ else _)
            cases resizesS s user (nodeS s id) d.Length_ != 0 with
            | true => rfl
            | false => exact cond_f rfl (bind_eq (sets_eq z user _ d (mode_hm f id) hd.2.1) rfl)
theorem nodeT_upd {l : List api_Node} (hs : l.Pairwise fun a b => a.Id_ < b.Id_) (m : api_Node) {x : Int} (h : (nodeT l x).2 = true) : nodeT (updN l m) x = (bif x == m.Id_ then m else (nodeT l x).1, true) := by
  obtain ⟨h1, h2⟩ := nodeT_some h
  have := nodeT_of (updN_srt hs m) (updN_mem (n := m) h1)
  rw [h2] at this
  cases hx : x == m.Id_ with
  | true =>
    rw [hx] at this
    simp only [cond_true] at this
    rw [show m.Id_ = x from (beq_iff_eq.1 hx).symm] at this
    exact this
  | false =>
    rw [hx] at this
    simp only [cond_false] at this
    rw [h2] at this
    exact this
structure Keep (t t' : api_Tree) (id : Int) : Prop where
  ok : OkT t'.Nodes_ t'.Next_
  is : (nodeT t'.Nodes_ id).2 = true
  mode : (nodeT t'.Nodes_ id).1.Mode_ = (nodeT t.Nodes_ id).1.Mode_
theorem rename_keep {t : api_Tree} (h : OkT t.Nodes_ t.Next_) {id : Int} (hi : (nodeT t.Nodes_ id).2 = true) (name uid : Str) (now : Int) : Keep t (renameT t id name uid now).1 id := by
  rcases rename_cases (id := id) (name := name) (uid := uid) (now := now) h with ⟨e, he⟩ | ⟨p, h1, _, _, _, h5, he, h6⟩
  · rw [he]; exact ⟨h, hi, rfl⟩
  · obtain ⟨g1, g2⟩ := nodeT_some hi
    have s1 := updN_srt h.srt (putName (nodeT t.Nodes_ id).1 name)
    have e1 := nodeT_upd h.srt (putName (nodeT t.Nodes_ id).1 name) hi
    have e2 := nodeT_upd s1 (touchN p uid now) (by rw [e1] : (nodeT (updN t.Nodes_ (putName (nodeT t.Nodes_ id).1 name)) id).2 = true)
    have e3 : (id == (touchN p uid now).Id_) = false := by
      have : (touchN p uid now).Id_ = p.Id_ := rfl
      rw [this]; simp; omega
    have e4 : (id == (putName (nodeT t.Nodes_ id).1 name).Id_) = true := by
      have : (putName (nodeT t.Nodes_ id).1 name).Id_ = (nodeT t.Nodes_ id).1.Id_ := rfl
      rw [this, g2]; simp
    rw [e3, e1, e4] at e2
    rw [he]
    exact ⟨h6, by rw [e2], by rw [e2]; rfl⟩
theorem resize_keep {t : api_Tree} (h : OkT t.Nodes_ t.Next_) {id : Int} (hi : (nodeT t.Nodes_ id).2 = true) (size : Int) (uid : Str) (now : Int) : Keep t (resizeT t id size uid now).1 id := by
  rcases resize_cases (id := id) (size := size) (uid := uid) (now := now) h with ⟨e, he⟩ | ⟨h1, _, he, _, h6⟩
  · rw [he]; exact ⟨h, hi, rfl⟩
  · obtain ⟨g1, g2⟩ := nodeT_some hi
    have e2 := nodeT_upd h.srt (touchN (putD (nodeT t.Nodes_ id).1 (fitS (nodeT t.Nodes_ id).1.Data_ size.toNat)) uid now) hi
    have e4 : (id == (touchN (putD (nodeT t.Nodes_ id).1 (fitS (nodeT t.Nodes_ id).1.Data_ size.toNat)) uid now).Id_) = true := by
      have : (touchN (putD (nodeT t.Nodes_ id).1 (fitS (nodeT t.Nodes_ id).1.Data_ size.toNat)) uid now).Id_ = (nodeT t.Nodes_ id).1.Id_ := rfl
      rw [this, g2]; simp
    rw [e4] at e2
    rw [he]
    exact ⟨h6, by rw [e2], by rw [e2]; rfl⟩
theorem Keep.refl {t : api_Tree} (h : OkT t.Nodes_ t.Next_) {id : Int} (hi : (nodeT t.Nodes_ id).2 = true) : Keep t t id := ⟨h, hi, rfl⟩
theorem Keep.trans {a b c : api_Tree} {id : Int} (h : Keep a b id) (g : Keep b c id) : Keep a c id := ⟨g.ok, g.is, g.mode.trans h.mode⟩
def stepA (t : api_Tree) (user : Str) (id : Int) (n : api_Node) (d : api_Dir) (now : Int) : api_Tree := bif !(d.Name_ == []) && !(d.Name_ == n.Name_) then (renameT t id d.Name_ user (clockI now)).1 else t
def stepB (t : api_Tree) (user : Str) (id : Int) (n : api_Node) (d : api_Dir) (now : Int) : api_Tree := bif d.Length_ != -1 && d.Length_ != (n.Data_.length : Int) then (resizeT t id d.Length_ user (clockI now)).1 else t
def gidD (n : api_Node) (d : api_Dir) : Str := bif d.Gid_ == n.Gid_ then [] else d.Gid_
def stepC (t : api_Tree) (id : Int) (n : api_Node) (d : api_Dir) : api_Tree := bif (d.Mode_ != -1 || d.Mtime_ != -1) || !(gidD n d == []) then (attrsT t id d.Mode_ (gidD n d) d.Mtime_).1 else t
def stepE (l : List Int) (id : Int) (d : api_Dir) : List Int := bif d.Mode_ != -1 && !(hasI d.Mode_ 29) then outX l id else l
def wstatS (s : api_FileSrv) (user : Str) (id : Int) (d : api_Dir) (now : Int) : api_FileSrv × Int :=
  bif changesS s user id d != 0 then (s, changesS s user id d) else
  (putTE s (stepC (stepB (stepA s.Tree_ user id (nodeS s id) d now) user id (nodeS s id) d now) id (nodeS s id) d) (stepE s.Excl_ id d), 0)
theorem stepA_keep {t : api_Tree} (h : OkT t.Nodes_ t.Next_) {id : Int} (hi : (nodeT t.Nodes_ id).2 = true) (user : Str) (n : api_Node) (d : api_Dir) (now : Int) : Keep t (stepA t user id n d now) id := by
  unfold stepA
  cases !(d.Name_ == []) && !(d.Name_ == n.Name_) with
  | true => exact rename_keep h hi _ _ _
  | false => exact Keep.refl h hi
theorem stepB_keep {t : api_Tree} (h : OkT t.Nodes_ t.Next_) {id : Int} (hi : (nodeT t.Nodes_ id).2 = true) (user : Str) (n : api_Node) (d : api_Dir) (now : Int) : Keep t (stepB t user id n d now) id := by
  unfold stepB
  cases d.Length_ != -1 && d.Length_ != (n.Data_.length : Int) with
  | true => exact resize_keep h hi _ _ _
  | false => exact Keep.refl h hi
theorem changesS_zero {s : api_FileSrv} {user : Str} {id : Int} {d : api_Dir} (h : (changesS s user id d != 0) = false) : (fileC s user id != 0) = false ∧ checkR d = 0 ∧ renamesS s user (nodeS s id) d.Name_ = 0 ∧ resizesS s user (nodeS s id) d.Length_ = 0 ∧ setsS s user (nodeS s id) d = 0 := by
  have h0 : changesS s user id d = 0 := by simpa using h
  unfold changesS at h0
  cases hc : fileC s user id != 0 with
  | true => rw [hc] at h0; rw [show fileC s user id = 0 from h0] at hc; cases hc
  | false =>
    rw [hc] at h0
    replace h0 : changesN s user (nodeS s id) d = 0 := h0
    unfold changesN at h0
    cases h1 : checkR d != 0 with
    | true => rw [h1] at h0; rw [show checkR d = 0 from h0] at h1; cases h1
    | false =>
      rw [h1] at h0
      cases h2 : fixedD d with
      | true => rw [h2] at h0; cases h0
      | false =>
        rw [h2] at h0
        cases h3 : renamesS s user (nodeS s id) d.Name_ != 0 with
        | true => rw [h3] at h0; rw [show renamesS s user (nodeS s id) d.Name_ = 0 from h0] at h3; cases h3
        | false =>
          rw [h3] at h0
          cases h4 : resizesS s user (nodeS s id) d.Length_ != 0 with
          | true => rw [h4] at h0; rw [show resizesS s user (nodeS s id) d.Length_ = 0 from h0] at h4; cases h4
          | false =>
            rw [h4] at h0
            exact ⟨rfl, by simpa using h1, by simpa using h3, by simpa using h4, h0⟩
theorem setsS_mode {s : api_FileSrv} {user : Str} {n : api_Node} {d : api_Dir} (h : setsS s user n d = 0) (hm : (d.Mode_ != -1) = true) : okMode d.Mode_ = true ∧ hasI d.Mode_ 31 = hasI n.Mode_ 31 := by
  unfold setsS at h
  rw [hm] at h
  cases h1 : ownsS s user n with
  | false => rw [h1] at h; cases h
  | true =>
    rw [h1] at h
    cases h2 : hasI d.Mode_ 31 == hasI n.Mode_ 31 with
    | false => rw [h2] at h; cases h
    | true =>
      rw [h2] at h
      cases h3 : okMode d.Mode_ with
      | false => rw [h3] at h; cases h
      | true => exact ⟨rfl, by simpa using h2⟩
theorem checkR_mtime {d : api_Dir} (h : checkR d = 0) : d.Mtime_ = -1 ∨ 0 ≤ d.Mtime_ ∧ d.Mtime_ ≤ 1099511627776 := by
  unfold checkR at h
  cases hn : okNums d with
  | false => rw [hn] at h; cases h
  | true =>
    unfold okNums okIn at hn
    simp only [Bool.and_eq_true, Bool.or_eq_true, beq_iff_eq, decide_eq_true_eq] at hn
    exact hn.1.2
theorem stepC_mode {t : api_Tree} (h : OkT t.Nodes_ t.Next_) {id : Int} (hi : (nodeT t.Nodes_ id).2 = true) {n : api_Node} {d : api_Dir} (hn : n.Mode_ = (nodeT t.Nodes_ id).1.Mode_) (hmo : (d.Mode_ != -1) = true → okMode d.Mode_ = true ∧ hasI d.Mode_ 31 = hasI n.Mode_ 31) (hmt : d.Mtime_ = -1 ∨ 0 ≤ d.Mtime_ ∧ d.Mtime_ ≤ 1099511627776) :
    OkT (stepC t id n d).Nodes_ (stepC t id n d).Next_ ∧ (nodeT (stepC t id n d).Nodes_ id).2 = true ∧ (nodeT (stepC t id n d).Nodes_ id).1.Mode_ = bif d.Mode_ != -1 then d.Mode_ else n.Mode_ := by
  obtain ⟨g1, g2⟩ := nodeT_some hi
  unfold stepC
  cases hc : (d.Mode_ != -1 || d.Mtime_ != -1) || !(gidD n d == []) with
  | false =>
    simp only [Bool.or_eq_false_iff] at hc
    rw [hc.1.1]
    exact ⟨h, hi, hn.symm⟩
  | true =>
    have he : attrsT t id d.Mode_ (gidD n d) d.Mtime_ = (api_Tree.mk t.Next_ (updN t.Nodes_ (attrN (nodeT t.Nodes_ id).1 d.Mode_ (gidD n d) d.Mtime_)), 0) := by
      unfold attrsT
      rw [hi]
      have c1 : ((d.Mode_ != -1) && (!(okMode d.Mode_) || !(hasI d.Mode_ 31 == hasI (nodeT t.Nodes_ id).1.Mode_ 31))) = false := by
        cases hm : d.Mode_ != -1 with
        | false => rfl
        | true =>
          obtain ⟨a, b⟩ := hmo hm
          rw [hn] at b
          rw [a, b]; simp
      have c2 : ((d.Mtime_ != -1) && (decide (d.Mtime_ < 0) || decide (d.Mtime_ > 1099511627776))) = false := by
        rcases hmt with e | ⟨e1, e2⟩
        · rw [e]; rfl
        · rw [show decide (d.Mtime_ < 0) = false by simpa using e1, show decide (d.Mtime_ > 1099511627776) = false by simpa using e2]; simp
      rw [c1, c2]; rfl
    have h6 : OkT (updN t.Nodes_ (attrN (nodeT t.Nodes_ id).1 d.Mode_ (gidD n d) d.Mtime_)) t.Next_ := by
      obtain ⟨a, b⟩ := attrN_ok (h.flds _ g1) (mode := d.Mode_) (gid := gidD n d) (mtime := d.Mtime_) (by
        cases hm : d.Mode_ != -1 with
        | false => exact .inl (by simpa using hm)
        | true => obtain ⟨a, b⟩ := hmo hm; exact .inr ⟨a, by rw [b, hn]⟩) hmt
      exact h.upd g1 rfl rfl a b (.inl rfl)
    rw [cond_true, he]
    have e2 := nodeT_upd h.srt (attrN (nodeT t.Nodes_ id).1 d.Mode_ (gidD n d) d.Mtime_) hi
    have e4 : (id == (attrN (nodeT t.Nodes_ id).1 d.Mode_ (gidD n d) d.Mtime_).Id_) = true := by
      have : (attrN (nodeT t.Nodes_ id).1 d.Mode_ (gidD n d) d.Mtime_).Id_ = (nodeT t.Nodes_ id).1.Id_ := rfl
      rw [this, g2]; simp
    rw [e4] at e2
    refine ⟨h6, by rw [e2], ?_⟩
    rw [e2]
    show (bif d.Mode_ != -1 then d.Mode_ else (nodeT t.Nodes_ id).1.Mode_) = _
    rw [← hn]
end Go.Proofs.YtebcipkdnlfboaaGreat
namespace Go.Proofs.YtebcipkdnlfboaaGreat
open Go.Rt Go.RowKit
theorem wstat_trees {s : api_FileSrv} (f : FileOK s) {user : Str} {id : Int} {d : api_Dir} (now : Int) (hz : (changesS s user id d != 0) = false) :
    isS s id = true ∧ Keep s.Tree_ (stepA s.Tree_ user id (nodeS s id) d now) id ∧ Keep s.Tree_ (stepB (stepA s.Tree_ user id (nodeS s id) d now) user id (nodeS s id) d now) id ∧
    OkT (stepC (stepB (stepA s.Tree_ user id (nodeS s id) d now) user id (nodeS s id) d now) id (nodeS s id) d).Nodes_ (stepC (stepB (stepA s.Tree_ user id (nodeS s id) d now) user id (nodeS s id) d now) id (nodeS s id) d).Next_ ∧
    (nodeT (stepC (stepB (stepA s.Tree_ user id (nodeS s id) d now) user id (nodeS s id) d now) id (nodeS s id) d).Nodes_ id).2 = true ∧
    (nodeT (stepC (stepB (stepA s.Tree_ user id (nodeS s id) d now) user id (nodeS s id) d now) id (nodeS s id) d).Nodes_ id).1.Mode_ = bif d.Mode_ != -1 then d.Mode_ else (nodeS s id).Mode_ := by
  obtain ⟨h1, h2, h3, h4, h5⟩ := changesS_zero hz
  obtain ⟨_, _, hi⟩ := fileC_zero h1
  have kA := stepA_keep f.tr hi user (nodeS s id) d now
  have kB := kA.trans (stepB_keep kA.ok kA.is user (nodeS s id) d now)
  exact ⟨hi, kA, kB, stepC_mode kB.ok kB.is kB.mode.symm (fun hm => setsS_mode h5 hm) (checkR_mtime h2)⟩
theorem wstat_eq {s : api_FileSrv} (f : FileOK s) (z : SizeOK s) (user : Str) (id : Int) (d : api_Dir) (now : Int) (hu : user.length ≤ 9223372036854775807) (hd : DirB d) : filesrv_Wstat s user id d now = some (wstatS s user id d now) := by
  obtain ⟨n, e1, e2⟩ := file_eq z user id hu
  unfold filesrv_Wstat wstatS
  refine bind_eq (fresh_eq s z) (bind_eq e1 (bind_eq (a := changesS s user id d) ?_ ?_))
  · unfold changesS bne
    cases hc : fileC s user id == 0 with
    | false => rfl
    | true =>
      have h0 : fileC s user id = 0 := by simpa using hc
      obtain rfl := e2 h0
      exact cond_t rfl (bind_eq (changes_eq f z user (fileC_zero (by rw [h0]; rfl)).2.2 d hd) rfl)
  · cases hz : changesS s user id d != 0 with
    | true => rfl
    | false =>
      obtain ⟨hi, kA, kB, kC, _⟩ := wstat_trees f now hz
      obtain rfl := e2 (fileC_zero (changesS_zero hz).1).1
      refine cond_f rfl (bind_eq (a := ((stepA s.Tree_ user id (nodeS s id) d now).Next_, s.Users_, s.Quotas_, (stepA s.Tree_ user id (nodeS s id) d now).Nodes_, s.Excl_)) ?_ (bind_eq (a := ((stepB (stepA s.Tree_ user id (nodeS s id) d now) user id (nodeS s id) d now).Next_, s.Users_, s.Quotas_, (stepB (stepA s.Tree_ user id (nodeS s id) d now) user id (nodeS s id) d now).Nodes_, s.Excl_)) ?_ (bind_eq (a := gidD (nodeS s id) d) ?_ (bind_eq (a := ((stepC (stepB (stepA s.Tree_ user id (nodeS s id) d now) user id (nodeS s id) d now) id (nodeS s id) d).Next_, s.Users_, s.Quotas_, (stepC (stepB (stepA s.Tree_ user id (nodeS s id) d now) user id (nodeS s id) d now) id (nodeS s id) d).Nodes_, s.Excl_)) ?_ (bind_eq (a := (s.Users_, s.Quotas_, (stepC (stepB (stepA s.Tree_ user id (nodeS s id) d now) user id (nodeS s id) d now) id (nodeS s id) d).Next_, (stepC (stepB (stepA s.Tree_ user id (nodeS s id) d now) user id (nodeS s id) d now) id (nodeS s id) d).Nodes_, stepE s.Excl_ id d)) ?_ rfl)))))
      · unfold stepA
        cases !(d.Name_ == []) && !(d.Name_ == (nodeS s id).Name_) with
        | true => exact cond_t rfl (bind_eq rfl (bind_eq (tree_rename_eq s.Tree_ id d.Name_ user (clockI now) f.tr hd.2.2) rfl))
        | false => rfl
      · refine bind_eq (a := d.Length_ != -1 && d.Length_ != ((nodeS s id).Data_.length : Int)) ?_ ?_
        · rw [lenD_eq (f.tr.flds _ (node_mem hi)) (mode_hm f id)]
          cases d.Length_ != -1 <;> rfl
        · generalize hA : stepA s.Tree_ user id (nodeS s id) d now = tA at kA
          unfold stepB
          cases d.Length_ != -1 && d.Length_ != ((nodeS s id).Data_.length : Int) with
          | true => exact cond_t rfl (bind_eq rfl (bind_eq (tree_resize_eq tA id d.Length_ user (clockI now) kA.ok) rfl))
          | false => rfl
      · unfold gidD
        cases d.Gid_ == (nodeS s id).Gid_ <;> rfl
      · generalize hB : stepB (stepA s.Tree_ user id (nodeS s id) d now) user id (nodeS s id) d now = tB at kB
        unfold stepC
        cases (d.Mode_ != -1 || d.Mtime_ != -1) || !(gidD (nodeS s id) d == []) with
        | true => exact cond_t rfl (bind_eq (tree_attrs_eq tB id d.Mode_ _ d.Mtime_ kB.ok hd.2.1) rfl)
        | false => rfl
      · generalize hC : stepC (stepB (stepA s.Tree_ user id (nodeS s id) d now) user id (nodeS s id) d now) id (nodeS s id) d = tC
        unfold stepE
        rw [(has_c _ hd.2.1).2.2.1]
        refine bind_eq (a := d.Mode_ != -1 && !(hasI d.Mode_ 29)) (by cases d.Mode_ != -1 <;> rfl) ?_
        cases d.Mode_ != -1 && !(hasI d.Mode_ 29) with
        | true => exact cond_t rfl (bind_eq (unlock_eq _ id f.srt (by have := z.el; show s.Excl_.length ≤ 1000; omega)) rfl)
        | false => rfl
theorem outX_not {l : List Int} {x : Int} (h : x ∉ l) : outX l x = l := by
  unfold outX
  rw [List.filter_eq_self]
  intro y hy
  have : y ≠ x := fun e => h (e ▸ hy)
  simpa using this
theorem ref_wstat_eq {s : api_FileSrv} (f : FileOK s) (z : SizeOK s) (user : Str) (id : Int) (d : api_Dir) (now : Int) (hu : user.length ≤ 9223372036854775807) (hd : DirB d) : ref13_Wstat s user id d now = some (wstatS s user id d now) := by
  unfold ref13_Wstat wstatS
  refine bind_eq (ref_changes_eq f z user id hu d hd) ?_
  cases hz : changesS s user id d != 0 with
  | true => rfl
  | false =>
    obtain ⟨hi, kA, kB, kC, iC, mC⟩ := wstat_trees f now hz
    refine cond_f rfl (bind_eq (ref10_node_eq _ _ (nl2 z)) (bind_eq (a := putT s (stepA s.Tree_ user id (nodeS s id) d now)) ?_ (bind_eq (a := putT s (stepB (stepA s.Tree_ user id (nodeS s id) d now) user id (nodeS s id) d now)) ?_ (bind_eq (a := gidD (nodeS s id) d) ?_ (bind_eq (a := putT s (stepC (stepB (stepA s.Tree_ user id (nodeS s id) d now) user id (nodeS s id) d now) id (nodeS s id) d)) ?_ (bind_eq (a := (s.Users_, s.Quotas_, (stepC (stepB (stepA s.Tree_ user id (nodeS s id) d now) user id (nodeS s id) d now) id (nodeS s id) d).Next_, (stepC (stepB (stepA s.Tree_ user id (nodeS s id) d now) user id (nodeS s id) d now) id (nodeS s id) d).Nodes_, stepE s.Excl_ id d)) ?_ rfl))))))
    · unfold stepA
      show (bif !(d.Name_ == []) && !(d.Name_ == (nodeS s id).Name_) then _ else _) = _
      cases !(d.Name_ == []) && !(d.Name_ == (nodeS s id).Name_) with
      | true => exact cond_t rfl (bind_eq rfl (bind_eq (ref10_rename_eq s.Tree_ id d.Name_ user (clockI now) f.tr hd.2.2) rfl))
      | false => rfl
    · generalize hA : stepA s.Tree_ user id (nodeS s id) d now = tA at kA
      unfold stepB
      show (bif d.Length_ != -1 && d.Length_ != ((nodeS s id).Data_.length : Int) then _ else _) = _
      cases d.Length_ != -1 && d.Length_ != ((nodeS s id).Data_.length : Int) with
      | true => exact cond_t rfl (bind_eq rfl (bind_eq (ref10_resize_eq tA id d.Length_ user (clockI now) kA.ok) rfl))
      | false => rfl
    · unfold gidD
      show (bif d.Gid_ == (nodeS s id).Gid_ then _ else _) = _
      cases d.Gid_ == (nodeS s id).Gid_ <;> rfl
    · generalize hB : stepB (stepA s.Tree_ user id (nodeS s id) d now) user id (nodeS s id) d now = tB at kB
      unfold stepC
      cases (d.Mode_ != -1 || d.Mtime_ != -1) || !(gidD (nodeS s id) d == []) with
      | true => exact cond_t rfl (bind_eq (ref10_attrs_eq tB id d.Mode_ _ d.Mtime_ kB.ok hd.2.1) rfl)
      | false => rfl
    · generalize hC : stepC (stepB (stepA s.Tree_ user id (nodeS s id) d now) user id (nodeS s id) d now) id (nodeS s id) d = tC at kC iC mC
      refine bind_eq (ref10_node_eq _ _ (by have := kC.len; show tC.Nodes_.length ≤ 2000; omega)) (bind_eq (has_r _ (node_hm kC id)).2.2.1 ?_)
      show (bif !(hasI (nodeT tC.Nodes_ id).1.Mode_ 29) then _ else _) = _
      rw [mC]
      have hw : ref13_without s.Excl_ id = some (outX s.Excl_ id) := without_eq _ id (by have := z.el; omega)
      unfold stepE
      cases hm : d.Mode_ != -1 with
      | true =>
        simp only [cond_true, Bool.true_and]
        cases hasI d.Mode_ 29 with
        | true => rfl
        | false => exact cond_t rfl (bind_eq hw rfl)
      | false =>
        simp only [cond_false, Bool.false_and]
        cases hx : hasI (nodeS s id).Mode_ 29 with
        | true => rfl
        | false =>
          refine cond_t rfl (bind_eq hw ?_)
          rw [outX_not (fun hmem => by rw [(f.exc id hmem).2] at hx; cases hx)]
          rfl
structure OpB (o : law13_Op) : Prop where
  user : o.User_.length ≤ 2000
  name : o.Name_.length ≤ 2000
  data : o.Data_.length ≤ 100000
  mode : I64 o.Mode_
  perm : o.Perm_ ≤ 9223372036854775807
  dir : DirB o.Dir_
def stepS (s : api_FileSrv) (o : law13_Op) : api_FileSrv × Int × Int :=
  bif o.Kind_ == 1 then ((openS s o.User_ o.Id_ o.Mode_ o.Now_).1, 0, (openS s o.User_ o.Id_ o.Mode_ o.Now_).2) else
  bif o.Kind_ == 2 then createS s o.User_ o.Id_ o.Name_ o.Perm_ o.Mode_ o.Now_ else
  bif o.Kind_ == 3 then writeS s o.User_ o.Id_ o.Offset_ o.Data_ o.Now_ else
  bif o.Kind_ == 4 then (closeS s o.User_ o.Id_ o.Mode_ o.Now_, 0, 0) else
  bif o.Kind_ == 5 then ((removeS s o.User_ o.Id_ o.Now_).1, 0, (removeS s o.User_ o.Id_ o.Now_).2) else
  bif o.Kind_ == 6 then ((wstatS s o.User_ o.Id_ o.Dir_ o.Now_).1, 0, (wstatS s o.User_ o.Id_ o.Dir_ o.Now_).2) else (s, 0, 0)
theorem did_eq {s : api_FileSrv} (f : FileOK s) (z : SizeOK s) (o : law13_Op) (h : OpB o) : law13_did s o = some (stepS s o) := by
  have hu : o.User_.length ≤ 9223372036854775807 := by have := h.user; omega
  have hn : o.Name_.length ≤ 9223372036854775807 := by have := h.name; omega
  have hdt : o.Data_.length ≤ 9223372036854775807 := by have := h.data; omega
  have hm := h.mode
  unfold law13_did stepS
  rw [open_eq f z _ _ _ _ hu hm, create_eq f z _ _ _ _ _ _ hu hm h.perm hn, write_eq f z _ _ _ _ _ hu hdt, close_eq f z _ _ _ _ hu hm.2, remove_eq f z _ _ _ hu, wstat_eq f z _ _ _ _ hu h.dir]
  cases o.Kind_ == 1 <;> cases o.Kind_ == 2 <;> cases o.Kind_ == 3 <;> cases o.Kind_ == 4 <;> cases o.Kind_ == 5 <;> cases o.Kind_ == 6 <;> rfl
theorem want_eq {s : api_FileSrv} (f : FileOK s) (z : SizeOK s) (o : law13_Op) (h : OpB o) : law13_want s o = some (stepS s o) := by
  have hu : o.User_.length ≤ 9223372036854775807 := by have := h.user; omega
  have hn : o.Name_.length ≤ 9223372036854775807 := by have := h.name; omega
  have hdt : o.Data_.length ≤ 9223372036854775807 := by have := h.data; omega
  have hm := h.mode
  unfold law13_want stepS
  rw [ref_open_eq f z _ _ _ _ hu hm, ref_create_eq f z _ _ _ _ _ _ hu hm h.perm hn, ref_write_eq f z _ _ _ _ _ hu hdt, ref_close_eq f z _ _ _ _ hu hm.2, ref_remove_eq f z _ _ _ hu, ref_wstat_eq f z _ _ _ _ hu h.dir]
  cases o.Kind_ == 1 <;> cases o.Kind_ == 2 <;> cases o.Kind_ == 3 <;> cases o.Kind_ == 4 <;> cases o.Kind_ == 5 <;> cases o.Kind_ == 6 <;> rfl
end Go.Proofs.YtebcipkdnlfboaaGreat
namespace Go.Proofs.YtebcipkdnlfboaaGreat
open Go.Rt Go.RowKit
def Sm (l l' : List api_Node) : Prop := ∀ x, (nodeT l x).2 = true → (nodeT l' x).2 = true ∧ (nodeT l' x).1.Mode_ = (nodeT l x).1.Mode_
theorem Sm.refl (l : List api_Node) : Sm l l := fun _ h => ⟨h, rfl⟩
theorem Sm.trans {a b c : List api_Node} (h : Sm a b) (g : Sm b c) : Sm a c := fun x hx => by
  obtain ⟨h1, h2⟩ := h x hx
  obtain ⟨g1, g2⟩ := g x h1
  exact ⟨g1, g2.trans h2⟩
theorem Sm.upd {l : List api_Node} (hs : l.Pairwise fun a b => a.Id_ < b.Id_) {m : api_Node} (hm : m.Mode_ = (nodeT l m.Id_).1.Mode_) : Sm l (updN l m) := fun x hx => by
  rw [nodeT_upd hs m hx]
  refine ⟨rfl, ?_⟩
  cases hb : x == m.Id_ with
  | true => rw [beq_iff_eq.1 hb]; exact hm
  | false => rfl
theorem Sm.touch {l : List api_Node} (hs : l.Pairwise fun a b => a.Id_ < b.Id_) {p : api_Node} (hp : p ∈ l) (uid : Str) (now : Int) : Sm l (updN l (touchN p uid now)) :=
  Sm.upd hs (by show p.Mode_ = (nodeT l p.Id_).1.Mode_; rw [nodeT_of hs hp])
theorem Sm.app {l l' : List api_Node} : Sm l (l ++ l') := fun x hx => by
  have : nodeT (l ++ l') x = nodeT l x := by
    unfold nodeT at hx ⊢
    rw [List.find?_append]
    cases hf : l.find? (hasId x) with
    | none => rw [hf] at hx; cases hx
    | some y => rfl
  rw [this]
  exact ⟨hx, rfl⟩
theorem out_find {l : List api_Node} (hs : l.Pairwise fun a b => a.Id_ < b.Id_) {id x : Int} (hx : (nodeT l x).2 = true) (hne : x ≠ id) : nodeT (l.filter fun n => n.Id_ != id) x = nodeT l x := by
  obtain ⟨h1, h2⟩ := nodeT_some hx
  have hm : (nodeT l x).1 ∈ l.filter fun n => n.Id_ != id := List.mem_filter.2 ⟨h1, by rw [h2]; simpa using hne⟩
  have := nodeT_of (hs.filter _) hm
  rw [h2] at this
  rw [this]
  exact Prod.ext rfl hx.symm
theorem resize_sm {t : api_Tree} (h : OkT t.Nodes_ t.Next_) (id size : Int) (uid : Str) (now : Int) : OkT (resizeT t id size uid now).1.Nodes_ (resizeT t id size uid now).1.Next_ ∧ Sm t.Nodes_ (resizeT t id size uid now).1.Nodes_ ∧ (resizeT t id size uid now).1.Nodes_.length = t.Nodes_.length := by
  rcases resize_cases (id := id) (size := size) (uid := uid) (now := now) h with ⟨e, he⟩ | ⟨h1, _, he, _, h6⟩
  · rw [he]; exact ⟨h, Sm.refl _, rfl⟩
  · rw [he]
    refine ⟨h6, Sm.upd h.srt ?_, updN_len _ _⟩
    show (nodeT t.Nodes_ id).1.Mode_ = (nodeT t.Nodes_ (nodeT t.Nodes_ id).1.Id_).1.Mode_
    rw [nodeT_of h.srt (nodeT_some h1).1]
theorem rename_sm {t : api_Tree} (h : OkT t.Nodes_ t.Next_) (id : Int) (name uid : Str) (now : Int) : OkT (renameT t id name uid now).1.Nodes_ (renameT t id name uid now).1.Next_ ∧ Sm t.Nodes_ (renameT t id name uid now).1.Nodes_ ∧ (renameT t id name uid now).1.Nodes_.length = t.Nodes_.length := by
  rcases rename_cases (id := id) (name := name) (uid := uid) (now := now) h with ⟨e, he⟩ | ⟨p, h1, _, hp, _, h5, he, h6⟩
  · rw [he]; exact ⟨h, Sm.refl _, rfl⟩
  · rw [he]
    have s1 : Sm t.Nodes_ (updN t.Nodes_ (putName (nodeT t.Nodes_ id).1 name)) := Sm.upd h.srt (by
      show (nodeT t.Nodes_ id).1.Mode_ = (nodeT t.Nodes_ (nodeT t.Nodes_ id).1.Id_).1.Mode_
      rw [nodeT_of h.srt (nodeT_some h1).1])
    refine ⟨h6, s1.trans (Sm.upd (updN_srt h.srt _) ?_), by simp only [updN_len]⟩
    show p.Mode_ = (nodeT (updN t.Nodes_ (putName (nodeT t.Nodes_ id).1 name)) p.Id_).1.Mode_
    have hpf : (nodeT t.Nodes_ p.Id_).2 = true := by rw [nodeT_of h.srt hp]
    rw [(s1 p.Id_ hpf).2, nodeT_of h.srt hp]
theorem attrs_len {t : api_Tree} (h : OkT t.Nodes_ t.Next_) (id mode : Int) (gid : Str) (mtime : Int) : (attrsT t id mode gid mtime).1.Nodes_.length = t.Nodes_.length := by
  rcases attrs_cases (id := id) (mode := mode) (gid := gid) (mtime := mtime) h with ⟨e, he⟩ | ⟨_, he, _⟩
  · rw [he]
  · rw [he]; exact updN_len _ _
theorem stepC_sm {t : api_Tree} (h : OkT t.Nodes_ t.Next_) (id : Int) (n : api_Node) (d : api_Dir) : (stepC t id n d).Nodes_.length = t.Nodes_.length ∧ ∀ x, x ≠ id → (nodeT t.Nodes_ x).2 = true → (nodeT (stepC t id n d).Nodes_ x).2 = true ∧ (nodeT (stepC t id n d).Nodes_ x).1 = (nodeT t.Nodes_ x).1 := by
  unfold stepC
  cases (d.Mode_ != -1 || d.Mtime_ != -1) || !(gidD n d == []) with
  | false => exact ⟨rfl, fun x _ hx => ⟨hx, rfl⟩⟩
  | true =>
    refine ⟨attrs_len h _ _ _ _, fun x hne hx => ?_⟩
    simp only [cond_true]
    rcases attrs_cases (id := id) (mode := d.Mode_) (gid := gidD n d) (mtime := d.Mtime_) h with ⟨e, he⟩ | ⟨hi, he, _⟩
    · rw [he]; exact ⟨hx, rfl⟩
    · rw [he]
      show (nodeT (updN t.Nodes_ _) x).2 = true ∧ (nodeT (updN t.Nodes_ _) x).1 = _
      rw [nodeT_upd h.srt _ hx]
      have : (x == (attrN (nodeT t.Nodes_ id).1 d.Mode_ (gidD n d) d.Mtime_).Id_) = false := by
        have e : (attrN (nodeT t.Nodes_ id).1 d.Mode_ (gidD n d) d.Mtime_).Id_ = (nodeT t.Nodes_ id).1.Id_ := rfl
        rw [e, (nodeT_some hi).2]; simpa using hne
      rw [this]
      exact ⟨rfl, rfl⟩
theorem stepA_sm {t : api_Tree} (h : OkT t.Nodes_ t.Next_) (user : Str) (id : Int) (n : api_Node) (d : api_Dir) (now : Int) : OkT (stepA t user id n d now).Nodes_ (stepA t user id n d now).Next_ ∧ Sm t.Nodes_ (stepA t user id n d now).Nodes_ ∧ (stepA t user id n d now).Nodes_.length = t.Nodes_.length := by
  unfold stepA
  cases !(d.Name_ == []) && !(d.Name_ == n.Name_) with
  | true => exact rename_sm h _ _ _ _
  | false => exact ⟨h, Sm.refl _, rfl⟩
theorem stepB_sm {t : api_Tree} (h : OkT t.Nodes_ t.Next_) (user : Str) (id : Int) (n : api_Node) (d : api_Dir) (now : Int) : OkT (stepB t user id n d now).Nodes_ (stepB t user id n d now).Next_ ∧ Sm t.Nodes_ (stepB t user id n d now).Nodes_ ∧ (stepB t user id n d now).Nodes_.length = t.Nodes_.length := by
  unfold stepB
  cases d.Length_ != -1 && d.Length_ != (n.Data_.length : Int) with
  | true => exact resize_sm h _ _ _ _
  | false => exact ⟨h, Sm.refl _, rfl⟩
structure After (s s' : api_FileSrv) : Prop where
  users : s'.Users_ = s.Users_
  quotas : s'.Quotas_ = s.Quotas_
  tr : OkT s'.Tree_.Nodes_ s'.Tree_.Next_
  srt : SortedI s'.Excl_
  exc : ∀ x ∈ s'.Excl_, (nodeT s'.Tree_.Nodes_ x).2 = true ∧ hasI (nodeT s'.Tree_.Nodes_ x).1.Mode_ 29 = true
  nl : s'.Tree_.Nodes_.length ≤ s.Tree_.Nodes_.length + 1
  el : s'.Excl_.length ≤ s.Excl_.length + 1
theorem After.refl {s : api_FileSrv} (f : FileOK s) : After s s := ⟨rfl, rfl, f.tr, f.srt, f.exc, Nat.le_succ _, Nat.le_succ _⟩
theorem After.ok {s s' : api_FileSrv} (f : FileOK s) (h : After s s') : FileOK s' := ⟨by rw [h.users]; exact f.us, by rw [h.quotas]; exact f.qs, h.tr, h.srt, h.exc⟩
theorem exc_sm {s : api_FileSrv} (f : FileOK s) {l : List api_Node} (h : Sm s.Tree_.Nodes_ l) {x : Int} (hx : x ∈ s.Excl_) : (nodeT l x).2 = true ∧ hasI (nodeT l x).1.Mode_ 29 = true := by
  obtain ⟨h1, h2⟩ := f.exc x hx
  obtain ⟨g1, g2⟩ := h x h1
  exact ⟨g1, by rw [g2]; exact h2⟩
theorem open_after {s : api_FileSrv} (f : FileOK s) (user : Str) (id mode now : Int) : After s (openS s user id mode now).1 := by
  unfold openS
  cases hz : opensS s user id mode != 0 with
  | true => exact After.refl f
  | false =>
    obtain ⟨h1, _⟩ := opensS_zero hz
    obtain ⟨_, _, hi⟩ := fileC_zero h1
    have ht : ∃ t, (bif hasI mode 4 && !(hasI (nodeS s id).Mode_ 30) then (resizeT s.Tree_ id 0 user (clockI now)).1 else s.Tree_) = t ∧ OkT t.Nodes_ t.Next_ ∧ Sm s.Tree_.Nodes_ t.Nodes_ ∧ t.Nodes_.length = s.Tree_.Nodes_.length := by
      cases hasI mode 4 && !(hasI (nodeS s id).Mode_ 30) with
      | true => exact ⟨_, rfl, resize_sm f.tr _ _ _ _⟩
      | false => exact ⟨_, rfl, f.tr, Sm.refl _, rfl⟩
    obtain ⟨t, e, t1, t2, t3⟩ := ht
    simp only [cond_false, e]
    cases h29 : hasI (nodeS s id).Mode_ 29 with
    | true =>
      refine ⟨rfl, rfl, t1, putX_sorted f.srt, fun x hx => ?_, by show t.Nodes_.length ≤ _; omega, putX_len _ _⟩
      rcases mem_putX.1 hx with rfl | ⟨hx, _⟩
      · obtain ⟨g1, g2⟩ := t2 x hi
        exact ⟨g1, by show hasI (nodeT t.Nodes_ x).1.Mode_ 29 = true; rw [g2]; exact h29⟩
      · exact exc_sm f t2 hx
    | false => exact ⟨rfl, rfl, t1, f.srt, fun x hx => exc_sm f t2 hx, by show t.Nodes_.length ≤ _; omega, Nat.le_succ _⟩
theorem create_after {s : api_FileSrv} (f : FileOK s) (user : Str) (id : Int) (name : Str) (perm mode now : Int) : After s (createS s user id name perm mode now).1 := by
  unfold createS
  cases hz : createsS s user id name perm mode != 0 with
  | true => exact After.refl f
  | false =>
    simp only [cond_false]
    rcases create_cases (dir := id) (name := name) (mode := inhI (nodeS s id).Mode_ perm) (uid := user) (gid := (nodeS s id).Gid_) (now := clockI now) f.tr with ⟨e, he, h⟩ | ⟨h, h1, _, _, h4⟩
    · rw [h]
      have : (e != 0) = true := by simpa using he
      simp only [this, cond_true]
      exact After.refl f
    · rw [h]
      have hs := updN_srt f.tr.srt (touchN (nodeS s id) user (clockI now))
      have hsm : Sm s.Tree_.Nodes_ (updN s.Tree_.Nodes_ (touchN (nodeS s id) user (clockI now)) ++ [newN s.Tree_ id name (inhI (nodeS s id).Mode_ perm) user (nodeS s id).Gid_ (clockI now)]) := (Sm.touch f.tr.srt (nodeT_some h1).1 _ _).trans Sm.app
      have hlen : (updN s.Tree_.Nodes_ (touchN (nodeS s id) user (clockI now)) ++ [newN s.Tree_ id name (inhI (nodeS s id).Mode_ perm) user (nodeS s id).Gid_ (clockI now)]).length ≤ s.Tree_.Nodes_.length + 1 := by
        rw [List.length_append, updN_len]; exact Nat.le_refl _
      show After s (putTE s _ (bif hasI (inhI (nodeS s id).Mode_ perm) 29 then putX s.Excl_ s.Tree_.Next_ else s.Excl_))
      cases h29 : hasI (inhI (nodeS s id).Mode_ perm) 29 with
      | true =>
        refine ⟨rfl, rfl, h4, putX_sorted f.srt, fun x hx => ?_, hlen, putX_len _ _⟩
        rcases mem_putX.1 hx with rfl | ⟨hx, _⟩
        · have := nodeT_of h4.srt (List.mem_append_right _ (List.mem_singleton_self (newN s.Tree_ id name (inhI (nodeS s id).Mode_ perm) user (nodeS s id).Gid_ (clockI now))))
          show (nodeT (updN s.Tree_.Nodes_ (touchN (nodeS s id) user (clockI now)) ++ [newN s.Tree_ id name (inhI (nodeS s id).Mode_ perm) user (nodeS s id).Gid_ (clockI now)]) s.Tree_.Next_).2 = true ∧ hasI (nodeT (updN s.Tree_.Nodes_ (touchN (nodeS s id) user (clockI now)) ++ [newN s.Tree_ id name (inhI (nodeS s id).Mode_ perm) user (nodeS s id).Gid_ (clockI now)]) s.Tree_.Next_).1.Mode_ 29 = true
          have e : (newN s.Tree_ id name (inhI (nodeS s id).Mode_ perm) user (nodeS s id).Gid_ (clockI now)).Id_ = s.Tree_.Next_ := rfl
          rw [e] at this
          rw [this]
          exact ⟨rfl, h29⟩
        · exact exc_sm f hsm hx
      | false => exact ⟨rfl, rfl, h4, f.srt, fun x hx => exc_sm f hsm hx, hlen, Nat.le_succ _⟩
theorem write_after {s : api_FileSrv} (f : FileOK s) (user : Str) (id offset : Int) (data : Str) (now : Int) : After s (writeS s user id offset data now).1 := by
  unfold writeS
  cases fileC s user id != 0 with
  | true => exact After.refl f
  | false =>
    cases hasI (nodeS s id).Mode_ 31 with
    | true => exact After.refl f
    | false =>
      cases decide (offset < 0) with
      | true => exact After.refl f
      | false =>
        cases data == [] with
        | true => exact After.refl f
        | false =>
          simp only [cond_false]
          generalize (bif hasI (nodeS s id).Mode_ 30 then ((nodeS s id).Data_.length : Int) else offset) = o
          cases decide (o > 65536) || decide ((data.length : Int) > w64 (65536 - o)) with
          | true => exact After.refl f
          | false =>
            cases growsS s (nodeS s id) (w64 (o + (data.length : Int))) with
            | false => exact After.refl f
            | true =>
              show After s (putT s (writeT s.Tree_ id o data user (clockI now)).1)
              rcases write_cases (id := id) (offset := o) (data := data) (uid := user) (now := clockI now) f.tr with ⟨e, he⟩ | ⟨k, h1, _, _, _, _, he, h6⟩
              · rw [he]; exact After.refl f
              · rw [he]
                have hsm : Sm s.Tree_.Nodes_ (updN s.Tree_.Nodes_ (touchN (putD (nodeS s id) (wrS (nodeS s id).Data_ k data)) user (clockI now))) := Sm.upd f.tr.srt (by
                  show (nodeS s id).Mode_ = (nodeT s.Tree_.Nodes_ (nodeS s id).Id_).1.Mode_
                  rw [nodeT_of f.tr.srt (nodeT_some h1).1])
                exact ⟨rfl, rfl, h6, f.srt, fun x hx => exc_sm f hsm hx, by show (updN _ _).length ≤ _; rw [updN_len]; omega, Nat.le_succ _⟩
theorem remove_after {s : api_FileSrv} (f : FileOK s) (user : Str) (id now : Int) : After s (removeS s user id now).1 := by
  unfold removeS
  cases fileC s user id != 0 with
  | true => exact After.refl f
  | false =>
    cases aboveS s user (nodeS s id) with
    | false => exact After.refl f
    | true =>
      simp only [Bool.not_true, cond_false]
      rcases remove_cases (id := id) (uid := user) (now := clockI now) f.tr with ⟨e, he, h⟩ | ⟨p, hp, _, _, _, _, h, h6⟩
      · rw [h]
        have : (e != 0) = true := by simpa using he
        simp only [this, cond_true]
        exact After.refl f
      · rw [h]
        refine ⟨rfl, rfl, h6, outX_sorted f.srt, fun x hx => ?_, ?_, Nat.le_succ_of_le (outX_len _ _)⟩
        · obtain ⟨x1, x2⟩ := mem_outX.1 hx
          obtain ⟨g1, g2⟩ := exc_sm f (Sm.touch f.tr.srt hp user (clockI now)) x1
          show (nodeT (List.filter (fun n => n.Id_ != id) (updN s.Tree_.Nodes_ (touchN p user (clockI now)))) x).2 = true ∧ hasI (nodeT (List.filter (fun n => n.Id_ != id) (updN s.Tree_.Nodes_ (touchN p user (clockI now)))) x).1.Mode_ 29 = true
          rw [out_find (updN_srt f.tr.srt _) g1 x2]
          exact ⟨g1, g2⟩
        · show (List.filter _ (updN _ _)).length ≤ _
          have := List.length_filter_le (fun n => n.Id_ != id) (updN s.Tree_.Nodes_ (touchN p user (clockI now)))
          rw [updN_len] at this
          omega
theorem close_after {s : api_FileSrv} (f : FileOK s) (user : Str) (id mode now : Int) : After s (closeS s user id mode now) := by
  have h0 : After s (setX s (outX s.Excl_ id)) := ⟨rfl, rfl, f.tr, outX_sorted f.srt, fun y hy => f.exc y (mem_outX.1 hy).1, Nat.le_succ _, Nat.le_succ_of_le (outX_len _ _)⟩
  unfold closeS
  cases hasI mode 6 with
  | false => exact h0
  | true =>
    have h1 := remove_after (out_ok f id) user id now
    have hl : (setX s (outX s.Excl_ id)).Excl_.length ≤ s.Excl_.length := outX_len _ _
    exact ⟨h1.users, h1.quotas, h1.tr, h1.srt, h1.exc, h1.nl, Nat.le_trans h1.el (by omega)⟩
theorem wstat_after {s : api_FileSrv} (f : FileOK s) (user : Str) (id : Int) (d : api_Dir) (now : Int) : After s (wstatS s user id d now).1 := by
  unfold wstatS
  cases hz : changesS s user id d != 0 with
  | true => exact After.refl f
  | false =>
    obtain ⟨hi, kA, kB, kC, iC, mC⟩ := wstat_trees f now hz
    obtain ⟨a1, a2, a3⟩ := stepA_sm f.tr user id (nodeS s id) d now
    obtain ⟨b1, b2, b3⟩ := stepB_sm a1 user id (nodeS s id) d now
    obtain ⟨c1, c2⟩ := stepC_sm b1 id (nodeS s id) d
    have hB := a2.trans b2
    have key : ∀ x ∈ s.Excl_, x ≠ id → (nodeT (stepC (stepB (stepA s.Tree_ user id (nodeS s id) d now) user id (nodeS s id) d now) id (nodeS s id) d).Nodes_ x).2 = true ∧ hasI (nodeT (stepC (stepB (stepA s.Tree_ user id (nodeS s id) d now) user id (nodeS s id) d now) id (nodeS s id) d).Nodes_ x).1.Mode_ 29 = true := fun x hx hne => by
      obtain ⟨g1, g2⟩ := exc_sm f hB hx
      obtain ⟨q1, q2⟩ := c2 x hne g1
      exact ⟨q1, by rw [q2]; exact g2⟩
    refine ⟨rfl, rfl, kC, ?_, fun x hx => ?_, ?_, ?_⟩
    · show SortedI (stepE s.Excl_ id d)
      unfold stepE
      cases d.Mode_ != -1 && !(hasI d.Mode_ 29) with
      | true => exact outX_sorted f.srt
      | false => exact f.srt
    · replace hx : x ∈ stepE s.Excl_ id d := hx
      unfold stepE at hx
      cases hc : d.Mode_ != -1 && !(hasI d.Mode_ 29) with
      | true =>
        rw [hc] at hx
        obtain ⟨x1, x2⟩ := mem_outX.1 hx
        exact key x x1 x2
      | false =>
        rw [hc] at hx
        replace hx : x ∈ s.Excl_ := hx
        by_cases hne : x = id
        · subst hne
          refine ⟨iC, ?_⟩
          show hasI (nodeT (stepC (stepB (stepA s.Tree_ user x (nodeS s x) d now) user x (nodeS s x) d now) x (nodeS s x) d).Nodes_ x).1.Mode_ 29 = true
          rw [mC]
          cases hm : d.Mode_ != -1 with
          | true =>
            rw [hm, Bool.true_and] at hc
            simpa using hc
          | false => exact (f.exc x hx).2
        · exact key x hx hne
    · show (stepC _ id (nodeS s id) d).Nodes_.length ≤ _
      rw [c1, b3, a3]; omega
    · show (stepE s.Excl_ id d).length ≤ _
      unfold stepE
      cases d.Mode_ != -1 && !(hasI d.Mode_ 29) with
      | true => exact Nat.le_succ_of_le (outX_len _ _)
      | false => exact Nat.le_succ _
theorem step_after {s : api_FileSrv} (f : FileOK s) (o : law13_Op) : After s (stepS s o).1 := by
  unfold stepS
  cases o.Kind_ == 1 with
  | true => exact open_after f _ _ _ _
  | false =>
    cases o.Kind_ == 2 with
    | true => exact create_after f _ _ _ _ _ _
    | false =>
      cases o.Kind_ == 3 with
      | true => exact write_after f _ _ _ _ _
      | false =>
        cases o.Kind_ == 4 with
        | true => exact close_after f _ _ _ _
        | false =>
          cases o.Kind_ == 5 with
          | true => exact remove_after f _ _ _
          | false =>
            cases o.Kind_ == 6 with
            | true => exact wstat_after f _ _ _ _
            | false => exact After.refl f
end Go.Proofs.YtebcipkdnlfboaaGreat
namespace Go.Proofs.YtebcipkdnlfboaaGreat
open Go.Rt Go.RowKit
def newN0 (root : Str) (now : Int) : api_Node := api_Node.mk 1 1 0 [47] 2147484141 (shortS root) (shortS root) (shortS root) (clockI now) (clockI now) []
def newT (root : Str) (now : Int) : api_Tree := api_Tree.mk 2 [newN0 root now]
def zeroS : api_FileSrv := api_FileSrv.mk [] [] (api_Tree.mk 0 []) []
theorem tree_new_eq (root : Str) (now : Int) : tree_New root 493 now = some (newT root now) := by
  unfold tree_New
  refine bind_eq (a := 493) (by kernel_rfl) (bind_eq (a := 493) (by kernel_rfl) (bind_eq (tree_short_eq root) (bind_eq (rfl : tree_clock now = some (clockI now)) ?_)))
  have e : w64 (2147483648 + 493) = 2147484141 := by kernel_rfl
  rw [e]; rfl
theorem ref10_new_eq (root : Str) (now : Int) : ref10_New root 493 now = some (newT root now) := by
  unfold ref10_New
  refine bind_eq (ref10_short_eq root) (bind_eq (ref10_short_eq root) (bind_eq (ref10_short_eq root) (bind_eq (rfl : ref10_Time now = some (clockI now)) (bind_eq (rfl : ref10_Time now = some (clockI now)) ?_))))
  have e : w64 (2147483648 + (andI .i64 493 511)) = 2147484141 := by kernel_rfl
  rw [e]; rfl
def newS (u : List api_User) (q : List api_Quota) (root : Str) (now : Int) : api_FileSrv × Int :=
  bif checkU u != 0 then (zeroS, checkU u) else bif checkQ q != 0 then (zeroS, checkQ q) else bif !(vU root) then (zeroS, 25) else (api_FileSrv.mk u q (newT root (clockI now)) [], 0)
theorem new_eq (u : List api_User) (q : List api_Quota) (root : Str) (now : Int) (hu : u.length ≤ 1000) (hm : smallM u) (hs : shortU u) (hq : q.length ≤ 1000) (hqs : shortQ q) (hr : root.length ≤ 9223372036854775807) : filesrv_New u q root now = some (newS u q root now) := by
  unfold filesrv_New newS
  refine bind_eq (user_check_eq u hu hm hs) ?_
  cases checkU u != 0 with
  | true => rfl
  | false =>
    refine cond_f rfl (bind_eq (quota_check_eq q hq hqs) ?_)
    cases checkQ q != 0 with
    | true => rfl
    | false =>
      refine cond_f rfl (bind_eq (user_valid _ hr) ?_)
      cases vU root with
      | false => rfl
      | true => exact cond_f rfl (bind_eq (clone_users hu) (bind_eq (clone_quotas hq) (bind_eq rfl (bind_eq (tree_new_eq root (clockI now)) (bind_eq (new_loop u hu hm) rfl)))))
theorem ref_new_eq (u : List api_User) (q : List api_Quota) (root : Str) (now : Int) (hu : u.length ≤ 1000) (hm : smallM u) (hs : shortU u) (hq : q.length ≤ 1000) (hqs : shortQ q) (hr : root.length ≤ 9223372036854775807) : ref13_New u q root now = some (newS u q root now) := by
  unfold ref13_New newS
  refine bind_eq (ref05_check_eq u hu hm hs) ?_
  cases checkU u != 0 with
  | true => rfl
  | false =>
    refine cond_f rfl (bind_eq (ref12_check_eq q hq hqs) ?_)
    cases checkQ q != 0 with
    | true => rfl
    | false =>
      refine cond_f rfl (bind_eq (ref05_valid _ hr) ?_)
      cases vU root with
      | false => rfl
      | true => exact cond_f rfl (bind_eq rfl (bind_eq (ref10_new_eq root (clockI now)) rfl))
theorem newT_ok (root : Str) (now : Int) : OkT (newT root now).Nodes_ (newT root now).Next_ := by
  have hn : okNode (newN0 root now) = true := by
    rw [okNode_iff]
    exact ⟨by show okMode 2147484141 = true; decide, ⟨by show (0 : Int) ≤ 0; omega, by show (0 : Int) ≤ 2147483647; omega⟩, clockI_ok now, clockI_ok now, ⟨shortS_len _, shortS_len _, shortS_len _⟩, Nat.zero_le _, fun _ => rfl⟩
  have hm : ∀ n ∈ [newN0 root now], n = newN0 root now := fun n hn => List.mem_singleton.1 hn
  refine ⟨List.pairwise_singleton .., ⟨newN0 root now, [], rfl, rfl, rfl, rfl, by show hasI 2147484141 31 = true; decide⟩, fun n h => by rw [hm n h]; exact hn, fun n h h1 => absurd rfl (by rw [hm n h] at h1; exact h1), fun n h h1 => absurd rfl (by rw [hm n h] at h1; exact h1), fun a ha b hb _ _ _ _ => by rw [hm a ha, hm b hb], fun n h => by rw [hm n h]; show (1 : Int) < 2; omega, by show (2 : Int) ≤ 1048576; omega, by show 1 ≤ 1024; omega⟩
theorem new_ok {u : List api_User} {q : List api_Quota} {root : Str} {now : Int} (h : (newS u q root now).2 = 0) : FileOK (newS u q root now).1 ∧ (newS u q root now).1 = api_FileSrv.mk u q (newT root (clockI now)) [] := by
  revert h
  unfold newS
  cases hu : checkU u != 0 with
  | true => intro h; rw [show checkU u = 0 from h] at hu; cases hu
  | false =>
    cases hq : checkQ q != 0 with
    | true => intro h; rw [show checkQ q = 0 from h] at hq; cases hq
    | false =>
      cases vU root with
      | false => intro h; cases h
      | true =>
        exact fun _ => ⟨⟨by simpa using hu, by simpa using hq, newT_ok root (clockI now), List.Pairwise.nil, fun x hx => absurd hx (by simp)⟩, rfl⟩
theorem scan_nil {α β : Type} : ∀ (k : Nat) (l : List α), scan (fun _ _ => (none : Option β)) k l = none
  | _, [] => rfl
  | k, _ :: l => scan_nil (k + 1) l
theorem same_loop {α : Type} {body : Int → Option (Step Int (Out Unit Bool))} (l : List α) (hl : l.length ≤ 2000) (hb : ∀ i, i < l.length → body (i : Int) = some (.next ((i + 1 : Nat) : Int))) (he : body (l.length : Int) = some (.done (.fall ()))) : loopF body BIG 0 = some (.fall ()) := by
  have := loop_scan (body := body) l (fun _ _ => (none : Option Bool)) (big_lt (by omega)) (fun i hi => hb i hi) he
  rw [this, scan_nil]; rfl
theorem same_texts (l : List Str) (hl : l.length ≤ 1000) : ref13_SameTexts l l = some true := by
  unfold ref13_SameTexts
  refine cond_f (by simp) (bind_eq (same_loop l (by omega) (fun i hi => ?_) ?_) rfl)
  · unfold ref13_SameTexts_L1
    rw [lt_t hi, getI_lt hi, w_succ (by omega)]
    simp
  · unfold ref13_SameTexts_L1; rw [lt_f]; rfl
theorem same_users (l : List api_User) (hl : l.length ≤ 1000) (hm : smallM l) : ref13_SameUsers l l = some true := by
  unfold ref13_SameUsers
  refine cond_f (by simp) (bind_eq (same_loop l (by omega) (fun i hi => ?_) ?_) rfl)
  · unfold ref13_SameUsers_L1
    rw [lt_t hi, getI_lt hi, w_succ (by omega)]
    simp [same_texts _ (hm _ (List.getElem_mem hi))]
  · unfold ref13_SameUsers_L1; rw [lt_f]; rfl
theorem same_quotas (l : List api_Quota) (hl : l.length ≤ 1000) : ref13_SameQuotas l l = some true := by
  unfold ref13_SameQuotas
  refine cond_f (by simp) (bind_eq (same_loop l (by omega) (fun i hi => ?_) ?_) rfl)
  · unfold ref13_SameQuotas_L1
    rw [lt_t hi, getI_lt hi, w_succ (by omega)]
    simp
  · unfold ref13_SameQuotas_L1; rw [lt_f]; rfl
theorem same_tree (t : api_Tree) (hl : t.Nodes_.length ≤ 1000) : ref13_SameTree t t = some true := by
  unfold ref13_SameTree
  refine cond_f (by simp) (bind_eq (same_loop t.Nodes_ (by omega) (fun i hi => ?_) ?_) rfl)
  · unfold ref13_SameTree_L1
    rw [lt_t hi, getI_lt hi, w_succ (by omega)]
    simp
  · unfold ref13_SameTree_L1; rw [lt_f]; rfl
theorem same_ints (l : List Int) (hl : l.length ≤ 1000) : ref13_SameInts l l = some true := by
  unfold ref13_SameInts
  refine cond_f (by simp) (bind_eq (same_loop l (by omega) (fun i hi => ?_) ?_) rfl)
  · unfold ref13_SameInts_L1
    rw [lt_t hi, getI_lt hi, w_succ (by omega)]
    simp
  · unfold ref13_SameInts_L1; rw [lt_f]; rfl
theorem same_dirs (l : List api_Dir) (hl : l.length ≤ 2000) : ref13_SameDirs l l = some true := by
  unfold ref13_SameDirs
  refine cond_f (by simp) (bind_eq (same_loop l hl (fun i hi => ?_) ?_) rfl)
  · unfold ref13_SameDirs_L1
    rw [lt_t hi, getI_lt hi, w_succ (by omega)]
    simp
  · unfold ref13_SameDirs_L1; rw [lt_f]; rfl
theorem same_eq (s : api_FileSrv) (hu : s.Users_.length ≤ 1000) (hm : smallM s.Users_) (hq : s.Quotas_.length ≤ 1000) (hn : s.Tree_.Nodes_.length ≤ 1000) (he : s.Excl_.length ≤ 1000) : ref13_Same s s = some true := by
  unfold ref13_Same
  rw [same_users _ hu hm, same_quotas _ hq, same_tree _ hn, same_ints _ he]
  rfl
structure SmallS (s : api_FileSrv) : Prop where
  ul : s.Users_.length ≤ 20
  um : ∀ u ∈ s.Users_, u.Members_.length ≤ 20
  ql : s.Quotas_.length ≤ 20
  nl : s.Tree_.Nodes_.length ≤ 100
  el : s.Excl_.length ≤ 100
theorem small_eq (s : api_FileSrv) : ∃ b, law13_small s = some b ∧ (b = true → SmallS s) := by
  unfold law13_small
  cases hc : (((decide ((s.Users_.length : Int) > 20)) || (decide ((s.Quotas_.length : Int) > 20))) || (decide ((s.Tree_.Nodes_.length : Int) > 100))) || (decide ((s.Excl_.length : Int) > 100)) with
  | true => exact ⟨false, rfl, fun h => (nomatch h)⟩
  | false =>
    simp only [Bool.or_eq_false_iff, decide_eq_false_iff_not] at hc
    have hl : loopF (law13_small_L1 s) BIG 0 = some (outO (scan (fun _ (u : api_User) => if decide (u.Members_.length ≤ 20) then none else some false) 0 s.Users_)) := by
      refine loop_scan s.Users_ _ (big_lt (by omega)) (fun i hi => ?_) ?_
      · unfold law13_small_L1
        rw [lt_t hi, getI_lt hi, w_succ (by omega)]
        simp only [cond_true, Option.bind_some]
        have e : decide ((s.Users_[i].Members_.length : Int) > 20) = !(decide (s.Users_[i].Members_.length ≤ 20)) := by rw [Bool.eq_iff_iff]; simp; omega
        rw [e]
        cases decide (s.Users_[i].Members_.length ≤ 20) <;> rfl
      · unfold law13_small_L1; rw [lt_f]; rfl
    refine ⟨_, cond_f rfl (scan_ret hl (fun _ => rfl) rfl), fun h => ⟨by omega, fun u hu => ?_, by omega, by omega, by omega⟩⟩
    rw [scan_all (p := fun _ (u : api_User) => decide (u.Members_.length ≤ 20)) (fun _ _ => rfl)] at h
    obtain ⟨i, hi⟩ := List.mem_iff_getElem?.1 hu
    simpa using h i u hi
theorem After.size {s s' : api_FileSrv} (h : After s s') (z : SizeOK s) (hn : s'.Tree_.Nodes_.length ≤ 500) (he : s'.Excl_.length ≤ 500) : SizeOK s' :=
  ⟨by rw [h.users]; exact z.ul, by rw [h.users]; exact z.um, by rw [h.users]; exact z.us, by rw [h.quotas]; exact z.ql, by rw [h.quotas]; exact z.qs, hn, he⟩
def wU : List api_User := [(api_User.mk [97, 100, 109] [] []), (api_User.mk [97, 110, 110] [] [])]
def wQ : List api_Quota := [(api_Quota.mk [97, 110, 110] 2 4)]
def wS0 : api_FileSrv := api_FileSrv.mk wU wQ (newT [97, 100, 109] (clockI 5)) []
def wD : api_Dir := api_Dir.mk (-1) (-1) (api_Qid.mk (-1) (-1) (-1)) 2147484159 (-1) (-1) (-1) [] [] [] []
def wS1 : api_FileSrv := (wstatS wS0 [97, 100, 109] 1 wD 6).1
def wS2 : api_FileSrv := (createS wS1 [97, 110, 110] 1 [102] 438 1 7).1
def wS3 : api_FileSrv := (writeS wS2 [97, 110, 110] 2 0 [104, 101, 108, 108] 8).1
theorem wU_ok : wU.length ≤ 1000 ∧ smallM wU ∧ shortU wU ∧ wQ.length ≤ 1000 ∧ shortQ wQ := by
  refine ⟨by decide, ?_, ?_, by decide, ?_⟩
  · intro u hu
    simp only [wU, List.mem_cons, List.not_mem_nil, or_false] at hu
    rcases hu with rfl | rfl <;> simp
  · intro u hu
    simp only [wU, List.mem_cons, List.not_mem_nil, or_false] at hu
    rcases hu with rfl | rfl <;> simp
  · intro u hu
    simp only [wQ, List.mem_cons, List.not_mem_nil, or_false] at hu
    rcases hu with rfl; simp
theorem wnew_eq : newS wU wQ [97, 100, 109] 5 = (wS0, 0) := by kernel_rfl
theorem awake_eq : law13_awake = some true := by
  obtain ⟨u1, u2, u3, u4, u5⟩ := wU_ok
  have f0 : FileOK wS0 := by
    have := (new_ok (u := wU) (q := wQ) (root := [97, 100, 109]) (now := 5) (by rw [wnew_eq])).1
    rw [wnew_eq] at this
    exact this
  have z0 : SizeOK wS0 := ⟨u1, u2, u3, u4, u5, by show 1 ≤ 500; omega, Nat.zero_le _⟩
  have a1 : After wS0 wS1 := wstat_after f0 _ _ _ _
  have f1 := a1.ok f0
  have n1 := a1.nl
  have e1 := a1.el
  have l0 : wS0.Tree_.Nodes_.length = 1 ∧ wS0.Excl_.length = 0 := ⟨rfl, rfl⟩
  have z1 := a1.size z0 (by omega) (by omega)
  have a2 : After wS1 wS2 := create_after f1 _ _ _ _ _ _
  have f2 := a2.ok f1
  have n2 := a2.nl
  have e2 := a2.el
  have z2 := a2.size z1 (by omega) (by omega)
  have a3 : After wS2 wS3 := write_after f2 _ _ _ _ _
  have f3 := a3.ok f2
  have hs : ∀ n : Nat, n ≤ 100 → n ≤ 9223372036854775807 := fun n h => by omega
  unfold law13_awake
  refine bind_eq (new_eq wU wQ [97, 100, 109] 5 u1 u2 u3 u4 u5 (by simp)) ?_
  rw [wnew_eq]
  refine cond_f rfl (bind_eq (create_eq f0 z0 [97, 110, 110] 1 [102] 438 1 6 (by simp) (by decide) (by omega) (by simp)) (cond_f (by kernel_rfl) (bind_eq rfl (bind_eq (wstat_eq f0 z0 [97, 100, 109] 1 wD 6 (by simp) ⟨by decide, by decide, by decide⟩) (cond_f (by kernel_rfl) (bind_eq (create_eq f1 z1 [97, 110, 110] 1 [102] 438 1 7 (by simp) (by decide) (by omega) (by simp)) (cond_f (by kernel_rfl) (bind_eq (write_eq f2 z2 [97, 110, 110] 2 0 [104, 101, 108, 108, 111] 8 (by simp) (by simp)) (cond_f (by kernel_rfl) (bind_eq (write_eq f2 z2 [97, 110, 110] 2 0 [104, 101, 108, 108] 8 (by simp) (by simp)) (cond_f (by kernel_rfl) (bind_eq (read_eq f3 2 1 2) (by kernel_rfl)))))))))))))
end Go.Proofs.YtebcipkdnlfboaaGreat
namespace Go.Proofs.YtebcipkdnlfboaaGreat
open Go.Rt Go.RowKit
noncomputable section
def teS : Nat → Type
  | 0 => api_User
  | 1 => api_Quota
  | 2 => api_Node
  | 3 => api_Tree
  | 4 => api_FileSrv
  | 5 => api_Qid
  | 6 => api_Dir
  | 7 => stat_number
  | 8 => tree_place
  | 9 => law13_Op
  | _ => Int
def teCs : Nat → List Ty
  | 0 => [.str, .str, .sl .str]
  | 1 => [.str, .int .i64, .int .i64]
  | 2 => [.int .i64, .int .i64, .int .i64, .str, .int .i64, .str, .str, .str, .int .i64, .int .i64, .str]
  | 3 => [.int .i64, .sl (.st 2)]
  | 4 => [.sl (.st 0), .sl (.st 1), .int .i64, .sl (.st 2), .sl (.int .i64)]
  | 5 => [.int .i64, .int .i64, .int .i64]
  | 6 => [.int .i64, .int .i64, .int .i64, .int .i64, .int .i64, .int .i64, .int .i64, .int .i64, .int .i64, .str, .str, .str, .str]
  | 7 => [.int .i64, .int .i64, .int .i64]
  | 8 => [.int .i64, .str]
  | 9 => [.int .i64, .str, .int .i64, .str, .int .i64, .int .i64, .int .i64, .str, .int .i64, .int .i64, .int .i64, .int .i64, .int .i64, .int .i64, .int .i64, .int .i64, .int .i64, .str, .str, .str, .str, .int .i64]
  | _ => [.int .i64]
def teUn : (n : Nat) → teS n → HL teS (teCs n)
  | 0, d => (d.Name_, d.Leader_, d.Members_, ())
  | 1, d => (d.User_, d.Files_, d.Bytes_, ())
  | 2, d => (d.Id_, d.Parent_, d.Vers_, d.Name_, d.Mode_, d.Uid_, d.Gid_, d.Muid_, d.Atime_, d.Mtime_, d.Data_, ())
  | 3, d => (d.Next_, d.Nodes_, ())
  | 4, d => (d.Users_, d.Quotas_, d.Tree_.Next_, d.Tree_.Nodes_, d.Excl_, ())
  | 5, d => (d.Type_, d.Vers_, d.Path_, ())
  | 6, d => (d.Type_, d.Dev_, d.Qid_.Type_, d.Qid_.Vers_, d.Qid_.Path_, d.Mode_, d.Atime_, d.Mtime_, d.Length_, d.Name_, d.Uid_, d.Gid_, d.Muid_, ())
  | 7, d => (d.n_, d.width_, d.most_, ())
  | 8, d => (d.dir_, d.name_, ())
  | 9, d => (d.Kind_, d.User_, d.Id_, d.Name_, d.Perm_, d.Mode_, d.Offset_, d.Data_, d.Dir_.Type_, d.Dir_.Dev_, d.Dir_.Qid_.Type_, d.Dir_.Qid_.Vers_, d.Dir_.Qid_.Path_, d.Dir_.Mode_, d.Dir_.Atime_, d.Dir_.Mtime_, d.Dir_.Length_, d.Dir_.Name_, d.Dir_.Uid_, d.Dir_.Gid_, d.Dir_.Muid_, d.Now_, ())
  | _ + 10, d => (d, ())
def teBd : (n : Nat) → HL teS (teCs n) → teS n
  | 0, h => ⟨h.1, h.2.1, h.2.2.1⟩
  | 1, h => ⟨h.1, h.2.1, h.2.2.1⟩
  | 2, h => ⟨h.1, h.2.1, h.2.2.1, h.2.2.2.1, h.2.2.2.2.1, h.2.2.2.2.2.1, h.2.2.2.2.2.2.1, h.2.2.2.2.2.2.2.1, h.2.2.2.2.2.2.2.2.1, h.2.2.2.2.2.2.2.2.2.1, h.2.2.2.2.2.2.2.2.2.2.1⟩
  | 3, h => ⟨h.1, h.2.1⟩
  | 4, h => ⟨h.1, h.2.1, ⟨h.2.2.1, h.2.2.2.1⟩, h.2.2.2.2.1⟩
  | 5, h => ⟨h.1, h.2.1, h.2.2.1⟩
  | 6, h => ⟨h.1, h.2.1, ⟨h.2.2.1, h.2.2.2.1, h.2.2.2.2.1⟩, h.2.2.2.2.2.1, h.2.2.2.2.2.2.1, h.2.2.2.2.2.2.2.1, h.2.2.2.2.2.2.2.2.1, h.2.2.2.2.2.2.2.2.2.1, h.2.2.2.2.2.2.2.2.2.2.1, h.2.2.2.2.2.2.2.2.2.2.2.1, h.2.2.2.2.2.2.2.2.2.2.2.2.1⟩
  | 7, h => ⟨h.1, h.2.1, h.2.2.1⟩
  | 8, h => ⟨h.1, h.2.1⟩
  | 9, h => ⟨h.1, h.2.1, h.2.2.1, h.2.2.2.1, h.2.2.2.2.1, h.2.2.2.2.2.1, h.2.2.2.2.2.2.1, h.2.2.2.2.2.2.2.1, ⟨h.2.2.2.2.2.2.2.2.1, h.2.2.2.2.2.2.2.2.2.1, ⟨h.2.2.2.2.2.2.2.2.2.2.1, h.2.2.2.2.2.2.2.2.2.2.2.1, h.2.2.2.2.2.2.2.2.2.2.2.2.1⟩, h.2.2.2.2.2.2.2.2.2.2.2.2.2.1, h.2.2.2.2.2.2.2.2.2.2.2.2.2.2.1, h.2.2.2.2.2.2.2.2.2.2.2.2.2.2.2.1, h.2.2.2.2.2.2.2.2.2.2.2.2.2.2.2.2.1, h.2.2.2.2.2.2.2.2.2.2.2.2.2.2.2.2.2.1, h.2.2.2.2.2.2.2.2.2.2.2.2.2.2.2.2.2.2.1, h.2.2.2.2.2.2.2.2.2.2.2.2.2.2.2.2.2.2.2.1, h.2.2.2.2.2.2.2.2.2.2.2.2.2.2.2.2.2.2.2.2.1⟩, h.2.2.2.2.2.2.2.2.2.2.2.2.2.2.2.2.2.2.2.2.2.1⟩
  | _ + 10, h => h.1
def teDeq : (n : Nat) → Option (DecidableEq (teS n))
  | 1 => some (inferInstanceAs (DecidableEq api_Quota))
  | 2 => some (inferInstanceAs (DecidableEq api_Node))
  | 5 => some (inferInstanceAs (DecidableEq api_Qid))
  | 6 => some (inferInstanceAs (DecidableEq api_Dir))
  | 8 => some (inferInstanceAs (DecidableEq tree_place))
  | _ => none
def teTy (n : Nat) : Option Ty := aget n [(2, .int .i64), (3, .int .i64), (4, .bool), (5, .int .u8), (6, .int .u8), (9, .str), (10, .str), (11, .str), (12, .int .u64), (21, .int .i32), (22, .sl (.st 0)), (23, .sl (.st 1)), (25, .sl (.st 2)), (27, .st 3), (28, .sl (.int .i64)), (30, .st 4), (32, .int .i64), (42, .st 5), (44, .st 6), (47, .sl (.st 6)), (52, .sl (.st 9)), (55, .st 9), (60, .st 2), (65, .sl .str), (68, .st 0), (70, .st 1), (127, .st 8), (164, .int .u64), (166, .sl (.st 7)), (169, .st 7), (174, .sl (.int .u8))]
def te : TE := ⟨teS, teCs, teUn, teBd, fun n x => by match n with | 0 => rfl | 1 => rfl | 2 => rfl | 3 => rfl | 4 => rfl | 5 => rfl | 6 => rfl | 7 => rfl | 8 => rfl | 9 => rfl | n + 10 => rfl, fun n x => by match n with | 0 => rfl | 1 => rfl | 2 => rfl | 3 => rfl | 4 => rfl | 5 => rfl | 6 => rfl | 7 => rfl | 8 => rfl | 9 => rfl | n + 10 => rfl, teDeq, teTy, fun n => by match n with | 0 => exact List.cons_ne_nil _ _ | 1 => exact List.cons_ne_nil _ _ | 2 => exact List.cons_ne_nil _ _ | 3 => exact List.cons_ne_nil _ _ | 4 => exact List.cons_ne_nil _ _ | 5 => exact List.cons_ne_nil _ _ | 6 => exact List.cons_ne_nil _ _ | 7 => exact List.cons_ne_nil _ _ | 8 => exact List.cons_ne_nil _ _ | 9 => exact List.cons_ne_nil _ _ | n + 10 => exact List.cons_ne_nil _ _⟩
theorem api_Qid_ext (x y : api_Qid) : (x = y) = (x.Type_ = y.Type_ ∧ x.Vers_ = y.Vers_ ∧ x.Path_ = y.Path_) := by cases x; cases y; simp
theorem eqd_api_Qid (x y : api_Qid) : ((x.Type_ == y.Type_) && ((x.Vers_ == y.Vers_) && ((x.Path_ == y.Path_) && true))) = true ↔ x = y := by simp [api_Qid_ext]
theorem eq_api_Qid_42 : EqFact Tryz.prog te 42 5 := by
  intro d x y l m hl hm
  obtain rfl := Option.some.inj hl
  obtain rfl := Option.some.inj hm
  refine eqIs_of 10 rfl (by kernel_rfl) (b := ((x.Type_ == y.Type_) && ((x.Vers_ == y.Vers_) && ((x.Path_ == y.Path_) && true)))) (by kernel_rfl) ?_
  rw [Bool.eq_iff_iff]
  exact (eqd_api_Qid x y).trans (@decide_eq_true_iff _ (d x y)).symm
theorem api_Dir_ext (x y : api_Dir) : (x = y) = (x.Type_ = y.Type_ ∧ x.Dev_ = y.Dev_ ∧ x.Qid_ = y.Qid_ ∧ x.Mode_ = y.Mode_ ∧ x.Atime_ = y.Atime_ ∧ x.Mtime_ = y.Mtime_ ∧ x.Length_ = y.Length_ ∧ x.Name_ = y.Name_ ∧ x.Uid_ = y.Uid_ ∧ x.Gid_ = y.Gid_ ∧ x.Muid_ = y.Muid_) := by cases x; cases y; simp
theorem eqd_api_Dir (x y : api_Dir) : ((x.Type_ == y.Type_) && ((x.Dev_ == y.Dev_) && (((x.Qid_.Type_ == y.Qid_.Type_) && ((x.Qid_.Vers_ == y.Qid_.Vers_) && ((x.Qid_.Path_ == y.Qid_.Path_) && true))) && ((x.Mode_ == y.Mode_) && ((x.Atime_ == y.Atime_) && ((x.Mtime_ == y.Mtime_) && ((x.Length_ == y.Length_) && (((⟨x.Name_.toArray⟩ : ByteArray).toList == (⟨y.Name_.toArray⟩ : ByteArray).toList) && (((⟨x.Uid_.toArray⟩ : ByteArray).toList == (⟨y.Uid_.toArray⟩ : ByteArray).toList) && (((⟨x.Gid_.toArray⟩ : ByteArray).toList == (⟨y.Gid_.toArray⟩ : ByteArray).toList) && (((⟨x.Muid_.toArray⟩ : ByteArray).toList == (⟨y.Muid_.toArray⟩ : ByteArray).toList) && true))))))))))) = true ↔ x = y := by simp [api_Dir_ext, api_Qid_ext]
theorem eq_api_Dir_44 : EqFact Tryz.prog te 44 6 := by
  intro d x y l m hl hm
  obtain rfl := Option.some.inj hl
  obtain rfl := Option.some.inj hm
  refine eqIs_of 10 rfl (by kernel_rfl) (b := ((x.Type_ == y.Type_) && ((x.Dev_ == y.Dev_) && (((x.Qid_.Type_ == y.Qid_.Type_) && ((x.Qid_.Vers_ == y.Qid_.Vers_) && ((x.Qid_.Path_ == y.Qid_.Path_) && true))) && ((x.Mode_ == y.Mode_) && ((x.Atime_ == y.Atime_) && ((x.Mtime_ == y.Mtime_) && ((x.Length_ == y.Length_) && (((⟨x.Name_.toArray⟩ : ByteArray).toList == (⟨y.Name_.toArray⟩ : ByteArray).toList) && (((⟨x.Uid_.toArray⟩ : ByteArray).toList == (⟨y.Uid_.toArray⟩ : ByteArray).toList) && (((⟨x.Gid_.toArray⟩ : ByteArray).toList == (⟨y.Gid_.toArray⟩ : ByteArray).toList) && (((⟨x.Muid_.toArray⟩ : ByteArray).toList == (⟨y.Muid_.toArray⟩ : ByteArray).toList) && true)))))))))))) (by kernel_rfl) ?_
  rw [Bool.eq_iff_iff]
  exact (eqd_api_Dir x y).trans (@decide_eq_true_iff _ (d x y)).symm
theorem api_Node_ext (x y : api_Node) : (x = y) = (x.Id_ = y.Id_ ∧ x.Parent_ = y.Parent_ ∧ x.Vers_ = y.Vers_ ∧ x.Name_ = y.Name_ ∧ x.Mode_ = y.Mode_ ∧ x.Uid_ = y.Uid_ ∧ x.Gid_ = y.Gid_ ∧ x.Muid_ = y.Muid_ ∧ x.Atime_ = y.Atime_ ∧ x.Mtime_ = y.Mtime_ ∧ x.Data_ = y.Data_) := by cases x; cases y; simp
theorem eqd_api_Node (x y : api_Node) : ((x.Id_ == y.Id_) && ((x.Parent_ == y.Parent_) && ((x.Vers_ == y.Vers_) && (((⟨x.Name_.toArray⟩ : ByteArray).toList == (⟨y.Name_.toArray⟩ : ByteArray).toList) && ((x.Mode_ == y.Mode_) && (((⟨x.Uid_.toArray⟩ : ByteArray).toList == (⟨y.Uid_.toArray⟩ : ByteArray).toList) && (((⟨x.Gid_.toArray⟩ : ByteArray).toList == (⟨y.Gid_.toArray⟩ : ByteArray).toList) && (((⟨x.Muid_.toArray⟩ : ByteArray).toList == (⟨y.Muid_.toArray⟩ : ByteArray).toList) && ((x.Atime_ == y.Atime_) && ((x.Mtime_ == y.Mtime_) && (((⟨x.Data_.toArray⟩ : ByteArray).toList == (⟨y.Data_.toArray⟩ : ByteArray).toList) && true))))))))))) = true ↔ x = y := by simp [api_Node_ext]
theorem eq_api_Node_60 : EqFact Tryz.prog te 60 2 := by
  intro d x y l m hl hm
  obtain rfl := Option.some.inj hl
  obtain rfl := Option.some.inj hm
  refine eqIs_of 10 rfl (by kernel_rfl) (b := ((x.Id_ == y.Id_) && ((x.Parent_ == y.Parent_) && ((x.Vers_ == y.Vers_) && (((⟨x.Name_.toArray⟩ : ByteArray).toList == (⟨y.Name_.toArray⟩ : ByteArray).toList) && ((x.Mode_ == y.Mode_) && (((⟨x.Uid_.toArray⟩ : ByteArray).toList == (⟨y.Uid_.toArray⟩ : ByteArray).toList) && (((⟨x.Gid_.toArray⟩ : ByteArray).toList == (⟨y.Gid_.toArray⟩ : ByteArray).toList) && (((⟨x.Muid_.toArray⟩ : ByteArray).toList == (⟨y.Muid_.toArray⟩ : ByteArray).toList) && ((x.Atime_ == y.Atime_) && ((x.Mtime_ == y.Mtime_) && (((⟨x.Data_.toArray⟩ : ByteArray).toList == (⟨y.Data_.toArray⟩ : ByteArray).toList) && true)))))))))))) (by kernel_rfl) ?_
  rw [Bool.eq_iff_iff]
  exact (eqd_api_Node x y).trans (@decide_eq_true_iff _ (d x y)).symm
theorem api_Quota_ext (x y : api_Quota) : (x = y) = (x.User_ = y.User_ ∧ x.Files_ = y.Files_ ∧ x.Bytes_ = y.Bytes_) := by cases x; cases y; simp
theorem eqd_api_Quota (x y : api_Quota) : (((⟨x.User_.toArray⟩ : ByteArray).toList == (⟨y.User_.toArray⟩ : ByteArray).toList) && ((x.Files_ == y.Files_) && ((x.Bytes_ == y.Bytes_) && true))) = true ↔ x = y := by simp [api_Quota_ext]
theorem eq_api_Quota_70 : EqFact Tryz.prog te 70 1 := by
  intro d x y l m hl hm
  obtain rfl := Option.some.inj hl
  obtain rfl := Option.some.inj hm
  refine eqIs_of 10 rfl (by kernel_rfl) (b := (((⟨x.User_.toArray⟩ : ByteArray).toList == (⟨y.User_.toArray⟩ : ByteArray).toList) && ((x.Files_ == y.Files_) && ((x.Bytes_ == y.Bytes_) && true)))) (by kernel_rfl) ?_
  rw [Bool.eq_iff_iff]
  exact (eqd_api_Quota x y).trans (@decide_eq_true_iff _ (d x y)).symm
theorem tree_place_ext (x y : tree_place) : (x = y) = (x.dir_ = y.dir_ ∧ x.name_ = y.name_) := by cases x; cases y; simp
theorem eqd_tree_place (x y : tree_place) : ((x.dir_ == y.dir_) && (((⟨x.name_.toArray⟩ : ByteArray).toList == (⟨y.name_.toArray⟩ : ByteArray).toList) && true)) = true ↔ x = y := by simp [tree_place_ext]
theorem eq_tree_place_127 : EqFact Tryz.prog te 127 8 := by
  intro d x y l m hl hm
  obtain rfl := Option.some.inj hl
  obtain rfl := Option.some.inj hm
  refine eqIs_of 10 rfl (by kernel_rfl) (b := ((x.dir_ == y.dir_) && (((⟨x.name_.toArray⟩ : ByteArray).toList == (⟨y.name_.toArray⟩ : ByteArray).toList) && true))) (by kernel_rfl) ?_
  rw [Bool.eq_iff_iff]
  exact (eqd_tree_place x y).trans (@decide_eq_true_iff _ (d x y)).symm
def eqL : List (Nat × Nat) := [(42, 5), (44, 6), (60, 2), (70, 1), (127, 8)]
theorem eqL_ok : ∀ p ∈ eqL, EqFact Tryz.prog te p.1 p.2 := by
  intro p hp
  simp only [eqL, List.mem_cons, List.not_mem_nil, or_false] at hp
  rcases hp with rfl | rfl | rfl | rfl | rfl
  · exact eq_api_Qid_42
  · exact eq_api_Dir_44
  · exact eq_api_Node_60
  · exact eq_api_Quota_70
  · exact eq_tree_place_127
end
end Go.Proofs.YtebcipkdnlfboaaGreat
namespace Go.Proofs.YtebcipkdnlfboaaGreat
open Go.Rt Go.RowKit
theorem users_fit {l : List api_User} (h : Fit te (.sl (.st 0)) l) : shortU l := fun u hu => ((h 1).1.2 u hu).1
theorem quotas_fit {l : List api_Quota} (h : Fit te (.sl (.st 1)) l) : shortQ l := fun q hq => ((h 1).1.2 q hq).1
theorem srv_fit {x : api_FileSrv} (h : Fit te (.st 4) x) : shortU x.Users_ ∧ shortQ x.Quotas_ ∧ NodesB x :=
  ⟨fun u hu => ((h 1).1.2 u hu).1, fun q hq => ((h 1).2.1.2 q hq).1, fun n hn => ⟨((h 1).2.2.2.1.2 n hn).2.2.2.2.1.2, ((h 1).2.2.2.1.2 n hn).2.2.2.1⟩⟩
def OpF (o : law13_Op) : Prop := I64 o.Mode_ ∧ o.Perm_ ≤ 9223372036854775807 ∧ DirB o.Dir_
theorem op_fit {o : law13_Op} (h : Fit te (.st 9) o) : OpF o :=
  ⟨(h 0).2.2.2.2.2.1, (h 0).2.2.2.2.1.2, (h 0).2.2.2.2.2.2.2.2.2.2.1.2, (h 0).2.2.2.2.2.2.2.2.2.2.2.2.2.1.2, (h 0).2.2.2.2.2.2.2.2.2.2.2.2.2.2.2.2.2.1⟩
theorem ops_fit {l : List law13_Op} (h : Fit te (.sl (.st 9)) l) : ∀ o ∈ l, OpF o := fun o ho =>
  ⟨((h 1).1.2 o ho).2.2.2.2.2.1, ((h 1).1.2 o ho).2.2.2.2.1.2, ((h 1).1.2 o ho).2.2.2.2.2.2.2.2.2.2.1.2, ((h 1).1.2 o ho).2.2.2.2.2.2.2.2.2.2.2.2.2.1.2, ((h 1).1.2 o ho).2.2.2.2.2.2.2.2.2.2.2.2.2.2.2.2.2.1⟩
theorem SmallS.size {s : api_FileSrv} (h : SmallS s) (hu : shortU s.Users_) (hq : shortQ s.Quotas_) : SizeOK s :=
  ⟨by have := h.ul; omega, fun u hm => by have := h.um u hm; omega, hu, by have := h.ql; omega, hq, by have := h.nl; omega, by have := h.el; omega⟩
def lightB (o : law13_Op) : Bool := (decide ((o.Data_.length : Int) ≤ 100000) && decide ((o.Name_.length : Int) ≤ 2000)) && decide ((o.User_.length : Int) ≤ 2000)
theorem light_ok {o : law13_Op} (h : lightB o = true) (f : OpF o) : OpB o := by
  unfold lightB at h
  simp only [Bool.and_eq_true, decide_eq_true_eq] at h
  exact ⟨by omega, by omega, by omega, f.1, f.2.1, f.2.2⟩
theorem FilesrvNews_true (x0 : List api_User) (x1 : List api_Quota) (x2 : Str) (x3 : Int) (hu : shortU x0) (hq : shortQ x1) : law13_FilesrvNews x0 x1 x2 x3 = some true := by
  unfold law13_FilesrvNews
  obtain ⟨b, hb, hs⟩ := small_eq (api_FileSrv.mk x0 x1 (api_Tree.mk 0 []) [])
  refine bind_eq hb ?_
  cases hc : (!b) || (decide ((x2.length : Int) > 2000)) with
  | true => exact cond_t rfl (bind_eq awake_eq rfl)
  | false =>
    simp only [Bool.or_eq_false_iff, Bool.not_eq_false', decide_eq_false_iff_not] at hc
    have z := (hs hc.1).size hu hq
    have u1 : x0.length ≤ 1000 := z.ul
    have u2 : smallM x0 := z.um
    have u3 : x1.length ≤ 1000 := z.ql
    refine cond_f rfl (bind_eq (new_eq x0 x1 x2 x3 u1 u2 hu u3 hq (by omega)) (bind_eq (ref_new_eq x0 x1 x2 x3 u1 u2 hu u3 hq (by omega)) (bind_eq (a := true) (cond_t (by simp) (bind_eq ?_ rfl)) (bind_eq (a := true) (cond_t rfl (bind_eq awake_eq rfl)) rfl))))
    by_cases h0 : (newS x0 x1 x2 x3).2 = 0
    · rw [(new_ok h0).2]
      exact same_eq _ u1 u2 u3 (by show 1 ≤ 1000; omega) (Nat.zero_le _)
    · have : (newS x0 x1 x2 x3).1 = zeroS := by
        revert h0
        unfold newS
        cases checkU x0 != 0 with
        | true => exact fun _ => rfl
        | false =>
          cases checkQ x1 != 0 with
          | true => exact fun _ => rfl
          | false =>
            cases vU x2 with
            | false => exact fun _ => rfl
            | true => exact fun h => absurd rfl h
      rw [this]
      exact same_eq zeroS (Nat.zero_le _) (fun u hu => absurd hu (by simp [zeroS])) (Nat.zero_le _) (Nat.zero_le _) (Nat.zero_le _)
theorem filesrvNews_plain (x0 : List api_User) (x1 : List api_Quota) (x2 : Str) (x3 : Int) (h0 : Fit te (.sl (.st 0)) x0) (h1 : Fit te (.sl (.st 1)) x1) (_ : Fit te .str x2) (_ : Fit te (.int .i64) x3) : law13_FilesrvNews x0 x1 x2 x3 = some true :=
  FilesrvNews_true x0 x1 x2 x3 (users_fit h0) (quotas_fit h1)
theorem filesrvRight_plain (x0 : api_FileSrv) (h0 : Fit te (.st 4) x0) : law13_FilesrvRight x0 = some true := by
  obtain ⟨hu, hq, hn⟩ := srv_fit h0
  unfold law13_FilesrvRight
  obtain ⟨b, hb, hs⟩ := small_eq x0
  refine bind_eq hb ?_
  cases b with
  | false => exact cond_t rfl (bind_eq awake_eq rfl)
  | true =>
    have z := (hs rfl).size hu hq
    obtain ⟨b1, e1, g1⟩ := filesrv_right_iff x0 z hn
    obtain ⟨b2, e2, g2⟩ := ref13_right_iff x0 z hn
    have : b1 = b2 := by rw [Bool.eq_iff_iff, g1, g2]
    subst this
    exact cond_f rfl (bind_eq e1 (bind_eq e2 (bind_eq (a := true) (cond_t (by simp) (bind_eq awake_eq rfl)) rfl)))
theorem filesrvReads_plain (x0 : api_FileSrv) (x1 : Str) (x2 : Int) (x3 : Str) (x4 : Int) (x5 : Int) (h0 : Fit te (.st 4) x0) (_ : Fit te .str x1) (_ : Fit te (.int .i64) x2) (_ : Fit te .str x3) (h4 : Fit te (.int .i64) x4) (_ : Fit te (.int .i64) x5) : law13_FilesrvReads x0 x1 x2 x3 x4 x5 = some true := by
  obtain ⟨hu, hq, hn⟩ := srv_fit h0
  have h4' : x4 ≤ 9223372036854775807 := (h4 0).1.2
  unfold law13_FilesrvReads
  obtain ⟨b, hb, hs⟩ := small_eq x0
  refine bind_eq hb ?_
  cases hc : ((!b) || (decide ((x1.length : Int) > 2000))) || (decide ((x3.length : Int) > 2000)) with
  | true => exact bind_eq (a := true) rfl (cond_t rfl (bind_eq awake_eq rfl))
  | false =>
    simp only [Bool.or_eq_false_iff, Bool.not_eq_false', decide_eq_false_iff_not] at hc
    have z := (hs hc.1.1).size hu hq
    obtain ⟨b2, e2, g2⟩ := ref13_right_iff x0 z hn
    refine bind_eq (a := !b2) (cond_f rfl (bind_eq e2 rfl)) ?_
    cases b2 with
    | false => exact cond_t rfl (bind_eq awake_eq rfl)
    | true =>
      have f := g2.1 rfl
      have hl : x1.length ≤ 9223372036854775807 := by omega
      obtain ⟨r, s1, s2, _⟩ := stat_eq f z x2
      obtain ⟨r', l1, l2, l3⟩ := list_eq f z x2
      refine cond_f rfl (bind_eq (walk_eq f z x1 x2 x3 hl) (bind_eq (ref_walk_eq f z x1 x2 x3 hl) (cond_f (by simp) (bind_eq (read_eq f x2 x4 x5) (bind_eq (ref_read_eq f z x2 x4 x5 h4') (cond_f (by simp) (bind_eq s1 (bind_eq s2 (cond_f (by simp) (bind_eq l1 (bind_eq l2 (bind_eq (a := true) (cond_t (by simp) (bind_eq (same_dirs _ l3) rfl)) (bind_eq (a := true) (cond_t rfl (bind_eq awake_eq rfl)) rfl)))))))))))))
theorem door {x0 : api_FileSrv} {x1 : law13_Op} (h0 : Fit te (.st 4) x0) (h1 : Fit te (.st 9) x1) {A B : Option Bool} (hA : A = some true) (hB : FileOK x0 → SmallS x0 → SizeOK x0 → OpB x1 → B = some true) :
    (Option.bind (law13_small x0) fun (y1 : Bool) =>
    Option.bind (bif (!y1) then some true else Option.bind (law13_light x1) fun (y2 : Bool) => some (!y2)) fun (y3 : Bool) =>
    Option.bind (bif y3 then some true else Option.bind (ref13_Right x0) fun (y4 : Bool) => some (!y4)) fun (y5 : Bool) =>
    (bif y5 then A else B)) = some true := by
  obtain ⟨hu, hq, hn⟩ := srv_fit h0
  obtain ⟨b, hb, hs⟩ := small_eq x0
  refine bind_eq hb ?_
  cases b with
  | false => exact bind_eq (a := true) rfl (bind_eq (a := true) rfl (cond_t rfl hA))
  | true =>
    have z := (hs rfl).size hu hq
    refine bind_eq (a := !(lightB x1)) (cond_f rfl rfl) ?_
    cases hl : lightB x1 with
    | false => exact bind_eq (a := true) rfl (cond_t rfl hA)
    | true =>
      obtain ⟨b2, e2, g2⟩ := ref13_right_iff x0 z hn
      refine bind_eq (a := !b2) (cond_f rfl (bind_eq e2 rfl)) ?_
      cases b2 with
      | false => exact cond_t rfl hA
      | true => exact cond_f rfl (hB (g2.1 rfl) (hs rfl) z (light_ok hl (op_fit h1)))
theorem After.bound {s : api_FileSrv} (f : FileOK s) {s' : api_FileSrv} (h : After s s') : NodesB s' := fun n hn => by
  have := f
  refine ⟨h.tr.hm hn, ?_⟩
  by_cases h1 : n.Id_ = 1
  · obtain ⟨r, q, e, r1, _, r3, _⟩ := h.tr.root
    have hr : r ∈ s'.Tree_.Nodes_ := by rw [e]; exact List.mem_cons_self ..
    obtain rfl := id_inj h.tr.srt hn hr (h1.trans r1.symm)
    rw [r3]; simp
  · have hk := h.tr.nam n hn h1
    unfold okName at hk
    simp only [Bool.and_eq_true, decide_eq_true_eq] at hk
    omega
theorem filesrvCalls_plain (x0 : api_FileSrv) (x1 : law13_Op) (h0 : Fit te (.st 4) x0) (h1 : Fit te (.st 9) x1) : law13_FilesrvCalls x0 x1 = some true := by
  unfold law13_FilesrvCalls
  refine door h0 h1 (bind_eq awake_eq rfl) fun f sm z o => ?_
  have a := step_after f x1
  have hn := a.nl
  have he := a.el
  have hn0 := sm.nl
  have he0 := sm.el
  have z' := a.size z (by omega) (by omega)
  obtain ⟨b, e, g⟩ := filesrv_right_iff _ z' (a.bound f)
  have hb : b = true := g.2 (a.ok f)
  subst hb
  refine bind_eq (did_eq f z x1 o) (bind_eq (want_eq f z x1 o) (bind_eq (a := true) (cond_t (by simp) (bind_eq (same_eq _ z'.ul z'.um z'.ql (by omega) (by omega)) rfl)) (bind_eq (a := true) (cond_t rfl (bind_eq e rfl)) (bind_eq (a := true) (cond_t rfl (bind_eq awake_eq rfl)) rfl))))
def playR : List law13_Op → api_FileSrv → Out (api_FileSrv × api_FileSrv) Bool
  | [], s => .fall (s, s)
  | o :: os, s => if lightB o then playR os (stepS s o).1 else .ret true
theorem play_ends : ∀ (os : List law13_Op) (s : api_FileSrv), FileOK s → SizeOK s → s.Tree_.Nodes_.length + os.length ≤ 500 → s.Excl_.length + os.length ≤ 500 → playR os s = .ret true ∨ ∃ s', playR os s = .fall (s', s') ∧ SizeOK s'
  | [], s, _, z, _, _ => .inr ⟨s, rfl, z⟩
  | o :: os, s, f, z, hn, he => by
    have a := step_after f o
    have h1 := a.nl
    have h2 := a.el
    simp only [List.length_cons] at hn he
    unfold playR
    by_cases hl : lightB o = true
    · rw [if_pos hl]
      exact play_ends os (stepS s o).1 (a.ok f) (a.size z (by omega) (by omega)) (by omega) (by omega)
    · rw [if_neg hl]; exact .inl rfl
theorem filesrvPlays_plain (x0 : List api_User) (x1 : List api_Quota) (x2 : Str) (x3 : List law13_Op) (h0 : Fit te (.sl (.st 0)) x0) (h1 : Fit te (.sl (.st 1)) x1) (_ : Fit te .str x2) (h3 : Fit te (.sl (.st 9)) x3) : law13_FilesrvPlays x0 x1 x2 x3 = some true := by
  have hu := users_fit h0
  have hq := quotas_fit h1
  have ho := ops_fit h3
  unfold law13_FilesrvPlays
  obtain ⟨b, hb, hs⟩ := small_eq (api_FileSrv.mk x0 x1 (api_Tree.mk 0 []) [])
  refine bind_eq hb ?_
  cases hc : ((!b) || (decide ((x2.length : Int) > 2000))) || (decide ((x3.length : Int) > 60)) with
  | true => exact cond_t rfl (bind_eq awake_eq rfl)
  | false =>
    simp only [Bool.or_eq_false_iff, Bool.not_eq_false', decide_eq_false_iff_not] at hc
    have z := (hs hc.1.1).size hu hq
    have u1 : x0.length ≤ 1000 := z.ul
    have u2 : smallM x0 := z.um
    have u3 : x1.length ≤ 1000 := z.ql
    refine cond_f rfl (bind_eq (new_eq x0 x1 x2 0 u1 u2 hu u3 hq (by omega)) (bind_eq (ref_new_eq x0 x1 x2 0 u1 u2 hu u3 hq (by omega)) (cond_f (by simp) ?_)))
    by_cases hz : (newS x0 x1 x2 0).2 = 0
    · obtain ⟨f0, e0⟩ := new_ok hz
      have z0 : SizeOK (newS x0 x1 x2 0).1 := by rw [e0]; exact ⟨u1, u2, hu, u3, hq, by show 1 ≤ 500; omega, Nat.zero_le _⟩
      have l0 : (newS x0 x1 x2 0).1.Tree_.Nodes_.length = 1 ∧ (newS x0 x1 x2 0).1.Excl_.length = 0 := by rw [e0]; exact ⟨rfl, rfl⟩
      generalize hS : newS x0 x1 x2 0 = S at *
      have hloop : loopF (law13_FilesrvPlays_L1 x3 S) BIG (0, S.1.Users_, S.1.Quotas_, S.1.Tree_.Next_, S.1.Tree_.Nodes_, S.1.Excl_, S.1.Users_, S.1.Quotas_, S.1.Tree_.Next_, S.1.Tree_.Nodes_, S.1.Excl_) = some (playR x3 S.1) := by
        refine loopF_up (body := law13_FilesrvPlays_L1 x3 S) (J := fun i st r => ∃ s, st = ((i : Int), s.Users_, s.Quotas_, s.Tree_.Next_, s.Tree_.Nodes_, s.Excl_, s.Users_, s.Quotas_, s.Tree_.Next_, s.Tree_.Nodes_, s.Excl_) ∧ FileOK s ∧ SizeOK s ∧ s.Tree_.Nodes_.length ≤ 1 + i ∧ s.Excl_.length ≤ i ∧ r = playR (x3.drop i) s) x3.length (big_lt (by omega)) (fun st r hJ => ?_) (fun i st r hi hJ => ?_) ⟨S.1, rfl, f0, z0, by omega, by omega, rfl⟩
        · obtain ⟨s, rfl, _, _, _, _, rfl⟩ := hJ
          unfold law13_FilesrvPlays_L1
          simp only
          rw [lt_f, List.drop_length]
          rfl
        · obtain ⟨s, rfl, f, zz, hn, he, rfl⟩ := hJ
          have a := step_after f x3[i]
          have a1 := a.nl
          have a2 := a.el
          rw [List.drop_eq_getElem_cons hi]
          have hz' : (S.2 == 0) = true := by simpa using hz
          cases hl : lightB x3[i] with
          | false =>
            refine .inl ?_
            unfold law13_FilesrvPlays_L1 playR
            simp only
            rw [lt_t hi, hz', getI_lt hi, hl]
            exact cond_t rfl (bind_eq rfl (bind_eq (a := false) (congrArg some hl) (cond_t rfl (bind_eq awake_eq rfl))))
          | true =>
            have hop := light_ok hl (ho _ (List.getElem_mem hi))
            refine .inr ⟨(((i + 1 : Nat) : Int), (stepS s x3[i]).1.Users_, (stepS s x3[i]).1.Quotas_, (stepS s x3[i]).1.Tree_.Next_, (stepS s x3[i]).1.Tree_.Nodes_, (stepS s x3[i]).1.Excl_, (stepS s x3[i]).1.Users_, (stepS s x3[i]).1.Quotas_, (stepS s x3[i]).1.Tree_.Next_, (stepS s x3[i]).1.Tree_.Nodes_, (stepS s x3[i]).1.Excl_), ?_, (stepS s x3[i]).1, rfl, a.ok f, a.size zz (by omega) (by omega), by omega, by omega, by show (if lightB x3[i] = true then playR (x3.drop (i + 1)) (stepS s x3[i]).1 else .ret true) = _; rw [if_pos hl]⟩
            unfold law13_FilesrvPlays_L1
            simp only
            rw [lt_t hi, hz', getI_lt hi, w_succ (by omega)]
            exact cond_t rfl (bind_eq rfl (bind_eq (a := true) (congrArg some hl) (cond_f rfl (bind_eq rfl (bind_eq (did_eq f zz _ hop) (bind_eq rfl (bind_eq (want_eq f zz _ hop) (cond_f (by simp) rfl))))))))
      refine bind_eq hloop ?_
      rcases play_ends x3 S.1 f0 z0 (by omega) (by omega) with hp | ⟨s', hp, zp⟩
      · rw [hp]
      · rw [hp]
        exact bind_eq (same_eq s' zp.ul zp.um zp.ql (by have := zp.nl; omega) (by have := zp.el; omega)) (bind_eq (a := true) (cond_t rfl (bind_eq awake_eq rfl)) rfl)
    · have e0 : (newS x0 x1 x2 0).1 = zeroS := by
        revert hz
        unfold newS
        cases checkU x0 != 0 with
        | true => exact fun _ => rfl
        | false =>
          cases checkQ x1 != 0 with
          | true => exact fun _ => rfl
          | false =>
            cases vU x2 with
            | false => exact fun _ => rfl
            | true => exact fun h => absurd rfl h
      have hz' : ((newS x0 x1 x2 0).2 == 0) = false := by simpa using hz
      rw [e0]
      generalize newS x0 x1 x2 0 = S at *
      refine bind_eq (a := Out.fall (zeroS, zeroS)) ?_ ?_
      rotate_left
      · exact bind_eq (same_eq zeroS (Nat.zero_le _) (fun u hu => absurd hu (by simp [zeroS])) (Nat.zero_le _) (Nat.zero_le _) (Nat.zero_le _)) (bind_eq (a := true) (cond_t rfl (bind_eq awake_eq rfl)) rfl)
      rw [big_succ]
      refine loopF_done ?_
      unfold law13_FilesrvPlays_L1
      simp only
      rw [hz', Bool.and_false]
      rfl
end Go.Proofs.YtebcipkdnlfboaaGreat
namespace Go
namespace Rt
open Go.RowKit Go.Shelf Go.Sort Go.Proofs Go.Lib
section
variable {P : Program} {E : TE} {z : Fz} {g : Ga} {w w' w0 : World} {Bs : List Nat} {F0 : Nat → Prop}
theorem splice_nil (cs : List Value) (o : Nat) : splice cs o [] = cs := by
  simp [splice]
theorem splice_cons (cs : List Value) (o : Nat) (v : Value) (vs : List Value) (h : o < cs.length) : splice (cs.set o v) (o + 1) vs = splice cs o (v :: vs) := by
  unfold splice
  rw [List.take_set, List.take_succ_eq_append_getElem h, List.drop_set_of_lt (by omega), List.set_append_right _ _ (by rw [List.length_take]; omega), List.length_take, Nat.min_eq_left (by omega)]
  simp
  rw [show o + 1 + vs.length = o + (vs.length + 1) by omega]
theorem setCell_heap {b o : Nat} {e : TypeId} {cs : List Value} {v : Value} (h : w.heap[b]? = some (.cells cs.toArray e (0, 0))) : (w.setCell ⟨b, o, none⟩ v).heap[b]? = some (.cells (cs.set o v).toArray e (0, 0)) := by
  unfold World.setCell
  simp only [Array.getElem?_modify, if_true, h, Option.map_some, Option.isSome_none, Bool.false_eq_true, if_false]
  simp
theorem setCell_else {b o k : Nat} {v : Value} (h : k ≠ b) : (w.setCell ⟨b, o, none⟩ v).heap[k]? = w.heap[k]? := by
  unfold World.setCell
  simp only [Array.getElem?_modify]
  rw [if_neg fun e => h e.symm]
theorem setCell_grow {b o : Nat} {v : Value} : Grow w (w.setCell ⟨b, o, none⟩ v) := ⟨rfl, rfl, rfl, by simp [World.setCell]⟩
theorem setCells_row {b : Nat} {e : TypeId} : ∀ (vs : List Value) (o : Nat) (cs : List Value) (w : World), w.heap[b]? = some (.cells cs.toArray e (0, 0)) → o + vs.length ≤ cs.length → (w.setCells b o vs).heap[b]? = some (.cells (splice cs o vs).toArray e (0, 0)) ∧ Grow w (w.setCells b o vs) ∧ ∀ k, k ≠ b → (w.setCells b o vs).heap[k]? = w.heap[k]?
  | [], o, cs, w, h, hl => ⟨by rw [splice_nil]; exact h, Grow.refl w, fun _ _ => rfl⟩
  | v :: vs, o, cs, w, h, hl => by
    simp only [List.length_cons] at hl
    obtain ⟨h1, h2, h3⟩ := setCells_row vs (o + 1) (cs.set o v) (w.setCell ⟨b, o, none⟩ v) (setCell_heap h) (by simp; omega)
    rw [splice_cons _ _ _ _ (by omega)] at h1
    exact ⟨h1, setCell_grow.trans h2, fun k hk => (h3 k hk).trans (setCell_else hk)⟩
def IV (xs : List Int) : List Value := xs.map (Value.int .i64)
theorem IV_len (xs : List Int) : (IV xs).length = xs.length := by simp [IV]
theorem IV_one {xs : List Int} : ∀ v ∈ IV xs, v.oneCell' = true := fun v hv => by
  obtain ⟨x, _, rfl⟩ := List.mem_map.1 hv
  rfl
def RowI (w : World) (e : TypeId) (xs : List Int) (A : Option Addr) (cap : Nat) : Prop :=
  (A = none ∧ cap = 0 ∧ xs = []) ∨ ∃ b cs, A = some ⟨b, 0, none⟩ ∧ w.heap[b]? = some (.cells (cs : List Value).toArray e (0, 0)) ∧ xs.length ≤ cap ∧ cap ≤ maxLen ∧ cs.length = cap ∧ cs.take xs.length = IV xs
theorem rows_IV {xs : List Int} {rows : List (List Value)} (h : Rows E z (.int .i64) xs rows) (hl : rows.length = xs.length) : rows.flatten = IV xs := by
  have : rows = xs.map fun x => [Value.int .i64 x] := by
    apply List.ext_getElem?
    intro i
    rw [List.getElem?_map]
    rcases Nat.lt_or_ge i xs.length with hi | hi
    · have hx := List.getElem?_eq_getElem hi
      have hr := List.getElem?_eq_getElem (show i < rows.length by omega)
      obtain ⟨vs, h1, h2⟩ := RD.int_inv (show RD E z [.int .i64] (xs[i], ()) rows[i] from h i _ _ hx hr)
      rw [hr, hx, h1, h2.nil_inv]
      rfl
    · rw [List.getElem?_eq_none (by omega), List.getElem?_eq_none hi]
      rfl
  rw [this]
  clear this h hl
  induction xs with
  | nil => rfl
  | cons x xs ih => simp only [List.map_cons, List.flatten_cons, ih]; rfl
theorem rowI_of {id : Nat} {e : TypeId} {xs : List Int} (h : ObjR P E z g w id (.row e (.int .i64) xs [])) : ∃ l, g id = some l ∧ l.n = xs.length ∧ RowI w e xs l.A l.cap := by
  obtain ⟨l, rows, h1, hn, hc, hown, hlen, hrl, hrows, _⟩ := h
  have hc1 : l.c = 1 := hc
  rw [hc1, rows_IV hrows (by omega)] at hown
  refine ⟨l, h1, hn, ?_⟩
  obtain ⟨_, h2⟩ := hown
  rcases h2 with ⟨h2, h3⟩ | ⟨b, cap, cur, hv, _, hh, hnc, hcm, hcs, htk⟩
  · injection h2 with e1 e2 e3
    exact .inl ⟨e1, e3, List.length_eq_zero_iff.1 (by omega)⟩
  · injection hv with e1 _ e3
    subst e3
    exact .inr ⟨b, cur.toList, e1, by simpa using hh, by omega, hcm, by simpa using hcs, by rw [Nat.mul_one, hn] at htk; exact htk⟩
theorem rowI_mk {id : Nat} {e : TypeId} {xs : List Int} {A : Option Addr} {cap : Nat} (h : RowI w e xs A cap) (hg : g id = some ⟨A, xs.length, cap, 1, 0, 0⟩) : ObjR P E z g w id (.row e (.int .i64) xs []) := by
  have hfl : (xs.map fun x => [Value.int .i64 x]).flatten = IV xs := by
    clear h hg
    induction xs with
    | nil => rfl
    | cons x xs ih => simp only [List.map_cons, List.flatten_cons, ih]; rfl
  refine ⟨_, xs.map fun x => [Value.int .i64 x], hg, rfl, rfl, ?_, by simp, fun r hr => ?_, fun i x r hx hr => ?_, fun p hp => nomatch hp⟩
  · rw [hfl]
    refine ⟨by simp [IV_len], ?_⟩
    rcases h with ⟨rfl, rfl, rfl⟩ | ⟨b, cs, rfl, hh, h1, h2, h3, h4⟩
    · exact .inl ⟨rfl, rfl⟩
    · exact .inr ⟨b, cap, cs.toArray, rfl, Nat.zero_le _, hh, h1, h2, by simpa using h3, by rw [Nat.mul_one]; exact h4⟩
  · obtain ⟨x, _, rfl⟩ := List.mem_map.1 hr
    rfl
  · rw [List.getElem?_map] at hr
    rw [hx] at hr
    obtain rfl := Option.some.inj hr
    exact RD.int .nil
theorem RowI.cell {e : TypeId} {xs : List Int} {b cap : Nat} (h : RowI w e xs (some ⟨b, 0, none⟩) cap) {j : Nat} {v : Value} (hj : (IV xs)[j]? = some v) : w.cell? ⟨b, 0 + j, none⟩ = some v := by
  rcases h with ⟨h, _⟩ | ⟨b', cs, h0, hh, h1, h2, h3, h4⟩
  · cases h
  · injection h0 with h0; injection h0 with h0; subst h0
    rw [Nat.zero_add, cell_of_row w b j _ e (0, 0) hh]
    rw [← h4, List.getElem?_take] at hj
    split at hj
    · simpa using hj
    · cases hj
theorem HR.rowI {e : TypeId} {xs zs : List Int} {i i' : Nat} {H H' : Nat → Option (Obj E)} {A A' : Option Addr} {cap' : Nat} {l : Loc} (h : HR P E Bs F0 w0 w z g H) (hi : H i = some (.row e (.int .i64) xs [])) (hl : g i = some l) (hA : l.A = A) (hn : g i' = none)
    (hb : Grow w w') (hk : ∀ k, k < w.heap.size → ¬ rowF A k → w'.heap[k]? = w.heap[k]?) (hr : RowI w' e zs A' cap') (hf : ∀ k, rowF A' k → rowF A k ∨ w.heap.size ≤ k)
    (hH : ∀ j o, H' j = some o → j = i' ∧ o = .row e (.int .i64) zs []) : HR P E Bs F0 w0 w' z (g.put i' ⟨A', zs.length, cap', 1, 0, 0⟩) H' := by
  refine h.turn (Ga.le_put hn) (i := i) (i' := i') (C := rowF A) (fun q ⟨a, ha, hq⟩ => ⟨_, hi, l, a, hl, hA.trans ha, hq⟩) hb hk (o' := .row e (.int .i64) zs []) (rowI_mk hr (Ga.put_self _ _ _)) (fun q hq => ?_) fun j p hj => .inl (hH j p hj)
  obtain ⟨l2, a2, h5, h6, rfl⟩ := hq
  rw [Ga.put_self] at h5
  obtain rfl := Option.some.inj h5
  exact hf _ ⟨a2, h6, rfl⟩
theorem zeroC_size (k : Nat) : (Builtin.zeroCells (Value.int .i64 0).cells k).size = k := by simp [Builtin.zeroCells, Value.cells]
theorem alloc_rowI {e : TypeId} {xs : List Int} {Z : Array Value} {G : Nat} (h1 : xs.length + Z.size = G) (h2 : G ≤ maxLen) : RowI (w.drew.alloc (.cells ((IV xs).toArray ++ Z) e)) e xs (some ⟨w.heap.size, 0, none⟩) G :=
  .inr ⟨w.heap.size, IV xs ++ Z.toList, rfl, by refine (MapKept.heap_alloc w.drew _).1.trans ?_; congr 3; apply Array.ext'; simp, by omega, h2, by simp [IV_len]; exact h1, by rw [List.take_append_of_le_length (by rw [IV_len]; exact Nat.le_refl _), List.take_of_length_le (by rw [IV_len]; exact Nat.le_refl _)]⟩
theorem alloc_grow (o : Go.Obj) : Grow w (w.drew.alloc o) := (show Grow w w.drew from ⟨rfl, rfl, rfl, Nat.le_refl _⟩).trans (Grow.of_below (Ext.one w.drew _).below)
theorem insert_run {ρ : Ren} (L : Lays2.n21 P ρ) {xs ys : List Int} {A : Option Addr} {cap vb vc : Nat} {i : Nat} (hx : RowI w (ρ.t 3) xs A cap) (hy : RowI w (ρ.t 3) ys (some ⟨vb, 0, none⟩) vc) (hm : 0 < ys.length) (hi : i ≤ xs.length) (hbig : (xs.length + ys.length) * 8 ≤ 140737488355328) (hap : ¬ rowF A vb) :
    Ret P (ρ.f 21) #[.slice A xs.length cap, .int .i64 (i : Int), .slice (some ⟨vb, 0, none⟩) ys.length vc] w fun v w' => ∃ A' cap', v = .slice A' (xs.take i ++ (ys ++ xs.drop i)).length cap' ∧ RowI w' (ρ.t 3) (xs.take i ++ (ys ++ xs.drop i)) A' cap' ∧ Grow w w' ∧ (∀ k, k < w.heap.size → ¬ rowF A k → w'.heap[k]? = w.heap[k]?) ∧ ∀ k, rowF A' k → rowF A k ∨ w.heap.size ≤ k := by
  have hlen : (xs.take i ++ (ys ++ xs.drop i)).length = xs.length + ys.length := by simp; omega
  have hyc := fun j v (h : (IV ys)[j]? = some v) => hy.cell h
  have hml : xs.length + ys.length ≤ maxLen := by unfold maxLen; omega
  rcases hx with ⟨rfl, rfl, rfl⟩ | ⟨b, cs, rfl, hh, h1, h2, h3, h4⟩
  · obtain rfl : i = 0 := by simpa using hi
    have := Any2.slices_Insert_int_end_grow L none 0 0 vb 0 ys.length vc [] (IV ys) w hm (Nat.le_refl _) (by omega) (by simpa using hbig) rfl (IV_len _) (fun _ => rfl) (fun _ h => nomatch h) hyc IV_one
    refine Calls.mono this fun e w' ⟨he, hw⟩ => ⟨_, he, some ⟨w.heap.size, 0, none⟩, grownCap w (0 + ys.length) 0 (ρ.t 3), by rw [hlen]; rfl, ?_, ?_, fun k hk _ => ?_, fun k ⟨a, ha, hk⟩ => ?_⟩
    · subst hw
      have := grownCap_ge w (0 + ys.length) 0 (ρ.t 3)
      rw [show ([] : List Int).take 0 ++ (ys ++ ([] : List Int).drop 0) = ys by simp]
      refine alloc_rowI (xs := ys) ?_ (grownCap_le_maxLen _ _ _ _ (show 0 + ys.length ≤ maxLen by rw [Nat.zero_add]; simpa using hml))
      rw [zeroC_size]
      revert this
      generalize grownCap w (0 + ys.length) 0 (ρ.t 3) = G
      omega
    · subst hw; exact alloc_grow _
    · subst hw
      exact (MapKept.heap_alloc w.drew _).2 k hk
    · obtain rfl := Option.some.inj ha; exact .inr (by subst hk; exact Nat.le_refl _)
  · have hbw : b < w.heap.size := by
      rcases Nat.lt_or_ge b w.heap.size with h' | h'
      · exact h'
      · rw [Array.getElem?_eq_none h'] at hh; cases hh
    have hxc : ∀ j v, (IV xs)[j]? = some v → w.cell? ⟨b, 0 + j, none⟩ = some v := fun j v h => RowI.cell (.inr ⟨b, cs, rfl, hh, h1, h2, h3, h4⟩) h
    have hvb : vb ≠ b := fun h => hap ⟨_, rfl, h⟩
    have hsome : ∀ j, j < cap → (w.cell? ⟨b, 0 + j, none⟩).isSome = true := fun j hj => by
      rw [Nat.zero_add, cell_of_row w b j _ _ (0, 0) hh]
      simp; omega
    have hfz : ∀ j, w.frozen? ⟨b, j, none⟩ = false := fun j => by unfold World.frozen?; simp only [hh]; simp
    have hkk : ∀ {w' : World}, (∀ k, k ≠ b → w'.heap[k]? = w.heap[k]?) → ∀ k, k < w.heap.size → ¬ rowF (some ⟨b, 0, none⟩) k → w'.heap[k]? = w.heap[k]? := fun h k _ hk => h k fun e => hk ⟨_, rfl, e⟩
    have hcap63 : cap ≤ 9223372036854775807 := by unfold maxLen at h2; omega
    have hcs : cs = IV xs ++ cs.drop xs.length := by rw [← h4, List.take_append_drop]
    rcases Nat.lt_or_ge i xs.length with hlt | hge
    · rcases Nat.lt_or_ge cap (xs.length + ys.length) with hroom | hroom
      · have := Any2.slices_Insert_int_grow L b 0 xs.length cap i vb 0 ys.length vc (IV xs) (IV ys) w hlt hm h1 hroom hbig (IV_len _) (IV_len _) hxc hyc IV_one IV_one
        obtain ⟨G, hG⟩ : ∃ G, G = grownCap w (xs.length + ys.length) cap (ρ.t 3) := ⟨_, rfl⟩
        have hGn : xs.length + ys.length ≤ G := by rw [hG]; exact grownCap_ge w _ _ _
        have hGm : G ≤ maxLen := by rw [hG]; exact grownCap_le_maxLen _ _ _ _ hml
        rw [← hG] at this
        obtain ⟨row, hrow⟩ : ∃ row : List Value, row.toArray = ((IV xs).take i).toArray ++ Builtin.zeroCells (Value.int .i64 0).cells (xs.length + ys.length - i) ++ Builtin.zeroCells (Value.int .i64 0).cells (G - (xs.length + ys.length)) := ⟨_, Array.toArray_toList⟩
        have hrl : row.length = G := by
          have := congrArg Array.size hrow
          simp [Builtin.zeroCells, Value.cells, IV_len] at this
          omega
        have hrt : row.take i = (IV xs).take i := by
          have := congrArg Array.toList hrow
          simp only [Array.toList_append, List.append_assoc] at this
          rw [this, List.take_append_of_le_length (by simp [IV_len]; omega), List.take_of_length_le (by rw [List.length_take]; omega)]
        rw [← hrow] at this
        refine Calls.mono this fun e w' ⟨he, hw⟩ => ?_
        have a1 := MapKept.heap_alloc w (.cells row.toArray (ρ.t 3))
        obtain ⟨a2, a3, a4⟩ := setCells_row (b := w.heap.size) (e := ρ.t 3) (IV ys) i row ((w.alloc (.cells row.toArray (ρ.t 3))).drew) a1.1 (by rw [IV_len, hrl]; omega)
        obtain ⟨a5, a6, a7⟩ := setCells_row (b := w.heap.size) (e := ρ.t 3) ((IV xs).drop i) (i + ys.length) _ (((w.alloc (.cells row.toArray (ρ.t 3))).drew.setCells w.heap.size i (IV ys)).drew) a2 (by simp [splice, IV_len, hrl]; omega)
        rw [← hw] at a5 a6 a7
        refine ⟨_, he, some ⟨w.heap.size, 0, none⟩, G, by rw [hlen], .inr ⟨w.heap.size, _, rfl, a5, by rw [hlen]; exact hGn, hGm, ?_, ?_⟩, ?_, fun k hk _ => ?_, fun k ⟨a, ha, hk⟩ => ?_⟩
        · simp [splice, IV_len, hrl]; omega
        · rw [hlen]
          simp only [splice, hrt, IV_len, List.length_drop]
          have e1 : ((IV xs).take i ++ IV ys ++ row.drop (i + ys.length)).take (i + ys.length) = (IV xs).take i ++ IV ys := by
            rw [List.take_append_of_le_length (by simp [IV_len]; omega), List.take_of_length_le (by simp [IV_len]; omega)]
          rw [e1, List.take_append_of_le_length (by simp [IV_len]; omega), List.take_of_length_le (by simp [IV_len]; omega)]
          simp [IV]
        · exact (Grow.of_below (Ext.one w _).below).trans ((show Grow (w.alloc _) (w.alloc _).drew from ⟨rfl, rfl, rfl, Nat.le_refl _⟩).trans (a3.trans ((show Grow (World.setCells _ _ _ _) (World.setCells _ _ _ _).drew from ⟨rfl, rfl, rfl, Nat.le_refl _⟩).trans a6)))
        · have hne : k ≠ w.heap.size := by omega
          exact (a7 k hne).trans ((a4 k hne).trans (a1.2 k hk))
        · obtain rfl := Option.some.inj ha; exact .inr (by subst hk; exact Nat.le_refl _)
      · have hy' := hy
        rcases hy' with ⟨h, _⟩ | ⟨vb', vs, e0, hvh, v1, v2, v3, v4⟩
        · cases h
        · injection e0 with e0; injection e0 with e0; subst e0
          have hsh : ∀ {q : Nat} {l : List Value}, w.heap[q]? = some (.cells l.toArray (ρ.t 3) (0, 0)) → w.shape? q = some (ρ.t 3, l.length) := fun h => by unfold World.shape?; simp [h]
          have hfz2 : ∀ j, w.frozen? ⟨vb, j, none⟩ = false := fun j => by unfold World.frozen?; simp only [hvh]; simp
          have := Any2.slices_Insert_int_shift L b 0 xs.length cap i vb 0 ys.length vc (IV xs) (IV ys) w hlt hm hroom hcap63 hvb (IV_len _) (IV_len _) hxc (fun j hj => hsome j (by omega)) (fun j _ => hfz _) hyc IV_one IV_one _ _ _ _ (hsh hvh) (hsh hh) (by omega) (hfz2 _) (hfz2 _)
          refine Calls.mono this fun e w' ⟨he, hw⟩ => ?_
          obtain ⟨a2, a3, a4⟩ := setCells_row (b := b) (e := ρ.t 3) ((IV xs).drop i) (0 + (i + ys.length)) cs w.drew hh (by simp [IV_len]; omega)
          obtain ⟨a5, a6, a7⟩ := setCells_row (b := b) (e := ρ.t 3) (IV ys) (0 + i) _ _ a2 (by simp [splice, IV_len]; omega)
          rw [← hw] at a5 a6 a7
          refine ⟨_, he, some ⟨b, 0, none⟩, cap, by rw [hlen], .inr ⟨b, _, rfl, a5, by rw [hlen]; exact hroom, h2, ?_, ?_⟩, ?_, hkk fun k hk => ?_, fun k hk => .inl hk⟩
          · simp [splice, IV_len]; omega
          · rw [hlen]
            simp only [splice, IV_len, Nat.zero_add, List.length_drop]
            have e0 : ∀ (l : List Value), ((cs.take (i + ys.length)) ++ l).take i = (IV xs).take i := fun l => by
              rw [List.take_append_of_le_length (by simp; omega), List.take_take, Nat.min_eq_left (by omega), ← h4, List.take_take, Nat.min_eq_left (by omega)]
            have e2 : ((cs.take (i + ys.length)) ++ (IV xs).drop i ++ cs.drop (i + ys.length + (xs.length - i))).drop (i + ys.length) = (IV xs).drop i ++ cs.drop (i + ys.length + (xs.length - i)) := by
              rw [List.append_assoc]
              exact List.drop_left' (by simp; omega)
            rw [e2, List.append_assoc (cs.take _), e0, List.append_assoc, ← List.append_assoc (IV ys), ← List.append_assoc, List.take_append_of_le_length (by simp [IV_len]; omega), List.take_of_length_le (by simp [IV_len]; omega)]
            simp [IV]
          · exact (show Grow w w.drew from ⟨rfl, rfl, rfl, Nat.le_refl _⟩).trans (a3.trans a6)
          · exact (a7 k hk).trans (a4 k hk)
    · obtain rfl : i = xs.length := by omega
      rcases Nat.lt_or_ge cap (xs.length + ys.length) with hroom | hroom
      · have := Any2.slices_Insert_int_end_grow L (some ⟨b, 0, none⟩) xs.length cap vb 0 ys.length vc (IV xs) (IV ys) w hm h1 hroom hbig (IV_len _) (IV_len _) (fun h => nomatch h) (fun a ha j v hj => by obtain rfl := Option.some.inj ha; rw [Addr.add_lit]; exact hxc j v hj) hyc IV_one
        obtain ⟨G, hG⟩ : ∃ G, G = grownCap w (xs.length + ys.length) cap (ρ.t 3) := ⟨_, rfl⟩
        have hGn : xs.length + ys.length ≤ G := by rw [hG]; exact grownCap_ge w _ _ _
        have hGm : G ≤ maxLen := by rw [hG]; exact grownCap_le_maxLen _ _ _ _ hml
        rw [← hG] at this
        have e0 : IV xs ++ IV ys = IV (xs ++ ys) := by simp [IV]
        have e1 : xs.take xs.length ++ (ys ++ xs.drop xs.length) = xs ++ ys := by simp
        rw [e0] at this
        rw [e1]
        refine Calls.mono this fun e w' ⟨he, hw⟩ => ⟨_, he, some ⟨w.heap.size, 0, none⟩, G, by rw [List.length_append], ?_, ?_, fun k hk _ => ?_, fun k ⟨a, ha, hk⟩ => ?_⟩
        · subst hw
          exact alloc_rowI (by rw [zeroC_size, List.length_append]; omega) hGm
        · subst hw; exact alloc_grow _
        · subst hw
          exact (MapKept.heap_alloc w.drew _).2 k hk
        · obtain rfl := Option.some.inj ha; exact .inr (by subst hk; exact Nat.le_refl _)
      · have := Any2.slices_Insert_int_end_room L b 0 xs.length cap vb 0 ys.length vc (IV ys) w hm hroom hcap63 (IV_len _) (fun j hj => by rw [Nat.add_assoc]; exact hsome _ (by omega)) (fun j _ => hfz _) hyc IV_one
        refine Calls.mono this fun e w' ⟨he, hw⟩ => ?_
        obtain ⟨a2, a3, a4⟩ := setCells_row (b := b) (e := ρ.t 3) (IV ys) (0 + xs.length) cs w hh (by simp [IV_len]; omega)
        rw [← hw] at a2 a3 a4
        refine ⟨_, he, some ⟨b, 0, none⟩, cap, by rw [hlen], .inr ⟨b, _, rfl, a2, by rw [hlen]; exact hroom, h2, ?_, ?_⟩, a3, hkk a4, fun k hk => .inl hk⟩
        · simp [splice, IV_len]; omega
        · rw [hlen]
          simp only [splice, Nat.zero_add]
          rw [List.take_append_of_le_length (by simp [IV_len]; omega), List.take_of_length_le (by simp only [List.length_append, List.length_take, IV_len]; omega), h4]
          simp [IV]
theorem insN_some {α : Type} {by_ : Nat} {xs ys zs : List α} {i : Int} (h : insN by_ xs i ys = some zs) : 0 < ys.length ∧ 0 ≤ i ∧ i ≤ (xs.length : Int) ∧ (xs.length + ys.length) * by_ ≤ 140737488355328 ∧ zs = xs.take i.toNat ++ (ys ++ xs.drop i.toNat) := by
  cases ys with
  | nil => cases h
  | cons y l =>
    simp only [insN] at h
    split at h
    · rename_i hc
      obtain rfl := Option.some.inj h
      exact ⟨Nat.succ_pos _, hc.1, hc.2.1, hc.2.2, rfl⟩
    · cases h
theorem delN_some {α : Type} {xs zs : List α} {i j : Int} (h : delN xs i j = some zs) : xs ≠ [] ∧ 0 ≤ i ∧ i ≤ j ∧ j ≤ (xs.length : Int) ∧ zs = xs.take i.toNat ++ xs.drop j.toNat := by
  cases xs with
  | nil => cases h
  | cons x l =>
    simp only [delN, delI] at h
    split at h
    · rename_i hc
      obtain rfl := Option.some.inj h
      exact ⟨(fun e => nomatch e), hc.1, hc.2.1, hc.2.2, rfl⟩
    · cases h
def conIns (E : TE) (e : TypeId) : Con E := conOf E [.g (.sl (.int .i64)) [some e], .d (.int .i64), .g (.sl (.int .i64)) [some e]] [(.sl (.int .i64), [some e])] false fun a => insN (α := Int) 8 a.1 a.2.1 a.2.2.1
theorem conIns_ok {ρ : Ren} (L : Lays2.n21 P ρ) : Con.OK P E (ρ.f 21) (conIns E (ρ.t 3)) := by
  intro R a k r hr
  obtain ⟨y, h1, h2⟩ := bind_some hr
  refine ⟨_, _, h2, ?_⟩
  obtain ⟨xs, i, ys, u⟩ := a
  obtain ⟨hm, hi0, hi1, hbig, rfl⟩ := insN_some (show insN 8 xs i ys = some y from h1)
  intro w z g Bs svs vs hav hH hfr hv
  obtain rfl := Option.some.inj (show some [V1.one (.own 0), .one (.dt (.int .i64) i), .one (.own 1)] = some svs from hav)
  cases hv with
  | cons v1 hv => cases hv with
    | cons v2 hv => cases hv with
      | cons v3 hv =>
        cases hv
        have hx := hH.hold 0 (.row (ρ.t 3) (.int .i64) xs []) rfl
        have hy := hH.hold 1 (.row (ρ.t 3) (.int .i64) ys []) rfl
        obtain ⟨l0, g0, n0, r0⟩ := rowI_of hx
        obtain ⟨l1, g1, n1, r1⟩ := rowI_of hy
        obtain ⟨l0', e0, rfl⟩ := v1
        rw [g0] at e0; obtain rfl := Option.some.inj e0
        obtain ⟨l1', e1, rfl⟩ := v3
        rw [g1] at e1; obtain rfl := Option.some.inj e1
        obtain ⟨vs2, e2, _⟩ := RD.int_inv (show RD E z [.int .i64] (i, ()) _ from v2)
        obtain ⟨rfl, _⟩ := List.cons.inj e2
        rcases r1 with ⟨_, _, rfl⟩ | r1'
        · cases hm
        · have r1'' := r1'
          obtain ⟨vb, cs, hA1, _⟩ := r1''
          have hap : ¬ rowF l0.A vb := fun ⟨a0, ha0, hb0⟩ => hH.apart 0 1 _ _ vb (by decide) rfl rfl ⟨l0, a0, g0, ha0, hb0⟩ ⟨l1, _, g1, hA1, rfl⟩
          have hrun := insert_run L r0 (by rw [← hA1]; exact .inr r1') hm (i := i.toNat) (by omega) hbig hap
          rw [n0, n1, hA1]
          rw [Int.toNat_of_nonneg hi0] at hrun
          refine hrun.mono fun v w' ⟨A', cap', hv', hr', hg', hk', hf'⟩ => ?_
          subst hv'
          refine ⟨z, g.put 2 ⟨A', _, cap', 1, 0, 0⟩, [.one (.own 2)], Fz.Le.refl z, fun _ => rfl, Ga.le_put (hfr 2 (Nat.le_refl _)), rfl, ⟨_, Ga.put_self _ _ _, rfl⟩, ?_⟩
          refine hH.rowI (i := 0) (xs := xs) rfl g0 rfl (hfr 2 (Nat.le_refl _)) hg' hk' hr' hf' fun j o hj => ?_
          rcases upH_one (H := fun _ => none) (i := 2) (p := .row (ρ.t 3) (.int .i64) (xs.take i.toNat ++ (ys ++ xs.drop i.toNat)) []) hj with h | ⟨_, h⟩
          · exact h
          · cases h
theorem mapBlock_row {b : Nat} {e : TypeId} {cs : Array Value} {f : Array Value → Array Value} (h : w.heap[b]? = some (.cells cs e (0, 0))) : (mapBlock w b f).heap[b]? = some (.cells (f cs) e (0, 0)) ∧ Grow w (mapBlock w b f) ∧ ∀ k, k ≠ b → (mapBlock w b f).heap[k]? = w.heap[k]? := by
  refine ⟨?_, ⟨rfl, rfl, rfl, by simp [mapBlock]⟩, fun k hk => ?_⟩
  · unfold mapBlock
    simp only [Array.getElem?_modify, if_true, h, Option.map_some, onCells]
  · unfold mapBlock
    simp only [Array.getElem?_modify]
    rw [if_neg fun e => hk e.symm]
theorem delete_run {ρ : Ren} (L : Lays2.n23 P ρ) {xs : List Int} {A : Option Addr} {cap : Nat} {i j : Nat} (hx : RowI w (ρ.t 3) xs A cap) (hne : xs ≠ []) (hij : i ≤ j) (hj : j ≤ xs.length) :
    Ret P (ρ.f 23) #[.slice A xs.length cap, .int .i64 (i : Int), .int .i64 (j : Int)] w fun v w' => ∃ A' cap', v = .slice A' (xs.take i ++ xs.drop j).length cap' ∧ RowI w' (ρ.t 3) (xs.take i ++ xs.drop j) A' cap' ∧ Grow w w' ∧ (∀ k, k < w.heap.size → ¬ rowF A k → w'.heap[k]? = w.heap[k]?) ∧ ∀ k, rowF A' k → rowF A k ∨ w.heap.size ≤ k := by
  rcases hx with ⟨_, _, h⟩ | ⟨b, cs, rfl, hh, h1, h2, h3, h4⟩
  · exact absurd h hne
  · have hlen : (xs.take i ++ xs.drop j).length = xs.length - (j - i) := by simp; omega
    have hH : Holds (Value.int .i64) w b 0 xs.toArray := fun q hq => by
      have hq' : q < xs.length := by simpa using hq
      refine ⟨?_, by unfold World.frozen?; simp only [hh]; simp⟩
      refine RowI.cell (xs := xs) (.inr ⟨b, cs, rfl, hh, h1, h2, h3, h4⟩) ?_
      rw [IV, List.getElem?_map, List.getElem?_eq_getElem hq', getElem!_pos xs.toArray q hq]
      simp
    have := Any.slices_Delete_int L b 0 cap i j xs w hH h1 (by unfold maxLen at h2; omega) hij hj
    refine Calls.mono this fun e w' ⟨he, q, hw⟩ => ?_
    obtain ⟨d, hd⟩ : ∃ d : Array Int, d = (xs.take i ++ xs.drop j ++ List.replicate (j - i) 0).toArray := ⟨_, rfl⟩
    rw [← hd] at hw
    obtain ⟨m1, m2, m3⟩ := mapBlock_row (w := Go.Sort.ahead w q) (f := putCells (Value.int .i64) 0 d) hh
    rw [show mapBlock (Go.Sort.ahead w q) b (putCells (Value.int .i64) 0 d) = w' from hw.symm] at m1 m2 m3
    subst hd
    refine ⟨_, he, some ⟨b, 0, none⟩, cap, by rw [hlen], .inr ⟨b, _, rfl, by rw [Array.toArray_toList]; exact m1, by rw [hlen]; omega, h2, by simp [putCells, h3], ?_⟩, ⟨m2.os, m2.tape, m2.output, m2.size⟩, fun k _ hk => (m3 k fun e => hk ⟨_, rfl, e⟩), fun k hk => .inl hk⟩
    rw [hlen]
    apply List.ext_getElem?
    intro t
    rw [List.getElem?_take]
    split
    · rename_i ht
      simp only [putCells, Array.toList_mapIdx, List.getElem?_mapIdx]
      have htc : t < cs.length := by omega
      rw [List.getElem?_eq_getElem htc]
      have hsz : t < (xs.take i ++ xs.drop j ++ List.replicate (j - i) 0).toArray.size := by simp; omega
      have hge : ∀ (d : Array Int) (h : t < d.size), d[t]! = d[t] := fun d h => getElem!_pos d t h
      rw [Option.map_some, if_pos ⟨Nat.zero_le _, by rw [Nat.zero_add]; exact hsz⟩, Nat.sub_zero, hge _ hsz, IV, List.getElem?_map, List.getElem?_eq_getElem (by omega)]
      simp only [List.getElem_toArray, Option.map_some]
      rw [List.getElem_append_left (by omega)]
    · rw [List.getElem?_eq_none (by rw [IV_len, hlen]; omega)]
def conDel (E : TE) (e : TypeId) : Con E := conOf E [.g (.sl (.int .i64)) [some e], .d (.int .i64), .d (.int .i64)] [(.sl (.int .i64), [some e])] false fun a => delN (α := Int) a.1 a.2.1 a.2.2.1
theorem conDel_ok {ρ : Ren} (L : Lays2.n23 P ρ) : Con.OK P E (ρ.f 23) (conDel E (ρ.t 3)) := by
  intro R a k r hr
  obtain ⟨y, h1, h2⟩ := bind_some hr
  refine ⟨_, _, h2, ?_⟩
  obtain ⟨xs, i, j, u⟩ := a
  obtain ⟨hne, hi0, hij, hj, rfl⟩ := delN_some (show delN xs i j = some y from h1)
  intro w z g Bs svs vs hav hH hfr hv
  obtain rfl := Option.some.inj (show some [V1.one (.own 0), .one (.dt (.int .i64) i), .one (.dt (.int .i64) j)] = some svs from hav)
  cases hv with
  | cons v1 hv => cases hv with
    | cons v2 hv => cases hv with
      | cons v3 hv =>
        cases hv
        have hx := hH.hold 0 (.row (ρ.t 3) (.int .i64) xs []) rfl
        obtain ⟨l0, g0, n0, r0⟩ := rowI_of hx
        obtain ⟨l0', e0, rfl⟩ := v1
        rw [g0] at e0; obtain rfl := Option.some.inj e0
        obtain ⟨vs2, e2, _⟩ := RD.int_inv (show RD E z [.int .i64] (i, ()) _ from v2)
        obtain ⟨rfl, _⟩ := List.cons.inj e2
        obtain ⟨vs3, e3, _⟩ := RD.int_inv (show RD E z [.int .i64] (j, ()) _ from v3)
        obtain ⟨rfl, _⟩ := List.cons.inj e3
        have hrun := delete_run L r0 hne (i := i.toNat) (j := j.toNat) (by omega) (by omega)
        rw [Int.toNat_of_nonneg hi0, Int.toNat_of_nonneg (by omega)] at hrun
        rw [n0]
        refine hrun.mono fun v w' ⟨A', cap', hv', hr', hg', hk', hf'⟩ => ?_
        subst hv'
        refine ⟨z, g.put 1 ⟨A', _, cap', 1, 0, 0⟩, [.one (.own 1)], Fz.Le.refl z, fun _ => rfl, Ga.le_put (hfr 1 (Nat.le_refl _)), rfl, ⟨_, Ga.put_self _ _ _, rfl⟩, ?_⟩
        refine hH.rowI (i := 0) (xs := xs) rfl g0 rfl (hfr 1 (Nat.le_refl _)) hg' hk' hr' hf' fun j' o hj' => ?_
        rcases upH_one (H := fun _ => none) (i := 1) (p := .row (ρ.t 3) (.int .i64) (xs.take i.toNat ++ xs.drop j.toNat) []) hj' with h | ⟨_, h⟩
        · exact h
        · cases h
end
end Rt
end Go
namespace Go.Proofs
open Go.Shelf
def Tryz.laysDelete_ren : Go.Shelf.Ren := ⟨fun | 23 => 151 | n => n, fun | 22 => 28 | 3 => 3 | 4 => 4 | 0 => 0 | n => n, fun | n => n⟩
theorem Tryz.laysDelete : Go.Proofs.Lays2.n23 Tryz.prog Tryz.laysDelete_ren := {
  mixed := by kernel_rfl
  f23 := Tryz.func151.trans (congrArg some (by kernel_rfl))
  t0 := Tryz.underlying0
  a0 := Tryz.isAgg0
  z0 := Tryz.sizeOf0
  v0 := Tryz.zeroValue0
  t3 := Tryz.underlying3
  a3 := Tryz.isAgg3
  z3 := Tryz.sizeOf3
  v3 := Tryz.zeroValue3
  t4 := Tryz.underlying4
  a4 := Tryz.isAgg4
  z4 := Tryz.sizeOf4
  v4 := Tryz.zeroValue4
  t22 := Tryz.underlying28
  a22 := Tryz.isAgg28
  z22 := Tryz.sizeOf28
  v22 := Tryz.zeroValue28
  i3 := by kernel_rfl }
end Go.Proofs
namespace Go.Proofs.YtebcipkdnlfboaaGreat
open Go.Shelf Go.RowKit Go.Rt
theorem fDelete : Tryz.laysDelete_ren.f 23 = 151 := by kernel_rfl
theorem tDelete : Tryz.laysDelete_ren.t 3 = 3 := by kernel_rfl
def con_slices_Delete : Con te := conDel te 3
theorem ok_con_slices_Delete : Con.OK Tryz.prog te 151 con_slices_Delete ∧ bodyB Tryz.prog 151 = true := by
  refine ⟨?_, by kernel_rfl⟩
  have h := conDel_ok (E := te) Tryz.laysDelete
  rw [fDelete, tDelete] at h
  exact h
end Go.Proofs.YtebcipkdnlfboaaGreat
namespace Go.Proofs
open Go.Shelf
def Tryz.laysInsert_ren : Go.Shelf.Ren := ⟨fun | 21 => 143 | 27 => 177 | 28 => 178 | 35 => 191 | 39 => 201 | n => n, fun | 22 => 28 | 3 => 3 | 4 => 4 | 0 => 0 | n => n, fun | n => n⟩
theorem Tryz.laysInsert : Go.Proofs.Lays2.n21 Tryz.prog Tryz.laysInsert_ren := {
  mixed := by kernel_rfl
  f21 := Tryz.func143.trans (congrArg some (by kernel_rfl))
  f27 := Tryz.func177.trans (congrArg some (by kernel_rfl))
  f28 := Tryz.func178.trans (congrArg some (by kernel_rfl))
  f35 := Tryz.func191.trans (congrArg some (by kernel_rfl))
  f39 := Tryz.func201.trans (congrArg some (by kernel_rfl))
  t0 := Tryz.underlying0
  a0 := Tryz.isAgg0
  z0 := Tryz.sizeOf0
  v0 := Tryz.zeroValue0
  t3 := Tryz.underlying3
  a3 := Tryz.isAgg3
  z3 := Tryz.sizeOf3
  v3 := Tryz.zeroValue3
  t4 := Tryz.underlying4
  a4 := Tryz.isAgg4
  z4 := Tryz.sizeOf4
  v4 := Tryz.zeroValue4
  t22 := Tryz.underlying28
  a22 := Tryz.isAgg28
  z22 := Tryz.sizeOf28
  v22 := Tryz.zeroValue28
  i3 := by kernel_rfl }
end Go.Proofs
namespace Go.Proofs.YtebcipkdnlfboaaGreat
open Go.Shelf Go.RowKit Go.Rt
theorem fInsert : Tryz.laysInsert_ren.f 21 = 143 := by kernel_rfl
theorem tInsert : Tryz.laysInsert_ren.t 3 = 3 := by kernel_rfl
def con_slices_Insert : Con te := conIns te 3
theorem ok_con_slices_Insert : Con.OK Tryz.prog te 143 con_slices_Insert ∧ bodyB Tryz.prog 143 = true := by
  refine ⟨?_, by kernel_rfl⟩
  have h := conIns_ok (E := te) Tryz.laysInsert
  rw [fInsert, tInsert] at h
  exact h
end Go.Proofs.YtebcipkdnlfboaaGreat
namespace Go.Proofs
open Go.Shelf
def Tryz.laysRepeat_ren : Go.Shelf.Ren := ⟨fun | 105 => 182 | 212 => 192 | 99 => 193 | 165 => 194 | 166 => 195 | 170 => 196 | 169 => 197 | 263 => 202 | 264 => 203 | 206 => 204 | 240 => 205 | 241 => 206 | 276 => 207 | 277 => 208 | n => n, fun | 9 => 9 | 3 => 3 | 4 => 4 | 20 => 20 | 0 => 0 | 46 => 164 | 109 => 176 | 5 => 5 | 72 => 181 | 76 => 185 | 51 => 191 | 146 => 192 | 53 => 194 | 148 => 195 | 70 => 179 | 37 => 174 | 75 => 184 | 127 => 197 | 164 => 198 | 80 => 188 | n => n, fun | n => n⟩
theorem Tryz.laysRepeat : Go.Proofs.Lays.n105 Tryz.prog Tryz.laysRepeat_ren := {
  mixed := by kernel_rfl
  f99 := Tryz.func193.trans (congrArg some (by kernel_rfl))
  f105 := Tryz.func182.trans (congrArg some (by kernel_rfl))
  f165 := Tryz.func194.trans (congrArg some (by kernel_rfl))
  f166 := Tryz.func195.trans (congrArg some (by kernel_rfl))
  f169 := Tryz.func197.trans (congrArg some (by kernel_rfl))
  f170 := Tryz.func196.trans (congrArg some (by kernel_rfl))
  f206 := Tryz.func204.trans (congrArg some (by kernel_rfl))
  f212 := Tryz.func192.trans (congrArg some (by kernel_rfl))
  f240 := Tryz.func205.trans (congrArg some (by kernel_rfl))
  f241 := Tryz.func206.trans (congrArg some (by kernel_rfl))
  f263 := Tryz.func202.trans (congrArg some (by kernel_rfl))
  f264 := Tryz.func203.trans (congrArg some (by kernel_rfl))
  f276 := Tryz.func207.trans (congrArg some (by kernel_rfl))
  f277 := Tryz.func208.trans (congrArg some (by kernel_rfl))
  t0 := Tryz.underlying0
  a0 := Tryz.isAgg0
  z0 := Tryz.sizeOf0
  v0 := Tryz.zeroValue0
  t3 := Tryz.underlying3
  a3 := Tryz.isAgg3
  z3 := Tryz.sizeOf3
  v3 := Tryz.zeroValue3
  t4 := Tryz.underlying4
  a4 := Tryz.isAgg4
  z4 := Tryz.sizeOf4
  v4 := Tryz.zeroValue4
  t5 := Tryz.underlying5
  a5 := Tryz.isAgg5
  z5 := Tryz.sizeOf5
  v5 := Tryz.zeroValue5
  t9 := Tryz.underlying9
  a9 := Tryz.isAgg9
  z9 := Tryz.sizeOf9
  v9 := Tryz.zeroValue9
  t20 := Tryz.underlying20
  a20 := Tryz.isAgg20
  z20 := Tryz.sizeOf20
  v20 := Tryz.zeroValue20
  t37 := Tryz.underlying174
  a37 := Tryz.isAgg174
  z37 := Tryz.sizeOf174
  v37 := Tryz.zeroValue174
  t46 := Tryz.underlying164
  a46 := Tryz.isAgg164
  z46 := Tryz.sizeOf164
  v46 := Tryz.zeroValue164
  t51 := Tryz.underlying191
  a51 := Tryz.isAgg191
  z51 := Tryz.sizeOf191
  v51 := Tryz.zeroValue191
  t53 := Tryz.underlying194
  a53 := Tryz.isAgg194
  z53 := Tryz.sizeOf194
  v53 := Tryz.zeroValue194
  t70 := Tryz.underlying179
  a70 := Tryz.isAgg179
  z70 := Tryz.sizeOf179
  v70 := Tryz.zeroValue179
  t72 := Tryz.underlying181
  a72 := Tryz.isAgg181
  z72 := Tryz.sizeOf181
  v72 := Tryz.zeroValue181
  t75 := Tryz.underlying184
  a75 := Tryz.isAgg184
  z75 := Tryz.sizeOf184
  v75 := Tryz.zeroValue184
  t76 := Tryz.underlying185
  a76 := Tryz.isAgg185
  z76 := Tryz.sizeOf185
  v76 := Tryz.zeroValue185
  t109 := Tryz.underlying176
  a109 := Tryz.isAgg176
  z109 := Tryz.sizeOf176
  v109 := Tryz.zeroValue176
  t127 := Tryz.underlying197
  a127 := Tryz.isAgg197
  z127 := Tryz.sizeOf197
  v127 := Tryz.zeroValue197
  t146 := Tryz.underlying192
  a146 := Tryz.isAgg192
  z146 := Tryz.sizeOf192
  v146 := Tryz.zeroValue192
  t148 := Tryz.underlying195
  a148 := Tryz.isAgg195
  z148 := Tryz.sizeOf195
  v148 := Tryz.zeroValue195
  t164 := Tryz.underlying198
  a164 := Tryz.isAgg198
  z164 := Tryz.sizeOf198
  v164 := Tryz.zeroValue198 }
end Go.Proofs
namespace Go.Proofs.YtebcipkdnlfboaaGreat
open Go.Shelf Go.RowKit Go.Rt
theorem Tryz.extraRepeat : Builder.Extra Tryz.prog Tryz.laysRepeat_ren where
  sizeBuilder := by kernel_rfl
  liesBuilder := by kernel_rfl
  t5 := Tryz.laysRepeat.t5
  a5 := Tryz.laysRepeat.a5
  z5 := Tryz.laysRepeat.z5
  v5 := Tryz.laysRepeat.v5
  infoByte := by kernel_rfl
  cellsByte := by kernel_rfl
  sizeByte := by kernel_rfl
  neB5 := by decide
theorem fRepeat : Tryz.laysRepeat_ren.f 105 = 182 := by kernel_rfl
theorem repeatL_eq (l : List UInt8) : ∀ c, Lib.repeatL l c = (List.replicate c l).flatten
  | 0 => rfl
  | c + 1 => by rw [Lib.repeatL, repeatL_eq l c, List.replicate_succ, List.flatten_cons]
theorem W_strings_Repeat (x0 : Str) (x1 : Int) (r : Str) (hF : strings_Repeat x0 x1 = some r) (w0 : World) : Ret Tryz.prog 182 #[S x0, .int .i64 x1] w0 fun v w => v = S r ∧ Ext w0 w := by
  unfold strings_Repeat at hF
  split at hF
  · rename_i h
    obtain ⟨h0, h1, h2⟩ := h
    simp only [Option.some.injEq] at hF
    subst hF
    obtain ⟨c, rfl⟩ : ∃ c : Nat, x1 = (c : Int) := ⟨x1.toNat, by omega⟩
    have hh := Any.strings_Repeat Tryz.laysRepeat Tryz.extraRepeat ⟨x0.toArray⟩ c w0 (by omega) (by rw [size_mk]; simpa using h2)
    rw [fRepeat] at hh
    refine Calls.mono hh fun e w ⟨he, hb⟩ => ⟨_, he, ?_, Ext.of_below hb⟩
    simp [S, repeatL_eq]
  · cases hF
def con_strings_Repeat : Con te := conOf te [.d .str, .d (.int .i64)] [(.str, [])] false fun a => strings_Repeat a.1 a.2.1
theorem ok_con_strings_Repeat : Con.OK Tryz.prog te 182 con_strings_Repeat ∧ bodyB Tryz.prog 182 = true := by
  refine ⟨fun R a k r hr => ?_, by kernel_rfl⟩
  obtain ⟨y, h1, h2⟩ := bind_some hr
  exact ⟨_, _, h2, callOK_flat (y := y) rfl rfl rfl rfl rfl fun w => W_strings_Repeat a.1 a.2.1 y h1 w⟩
end Go.Proofs.YtebcipkdnlfboaaGreat
namespace Go.Proofs.YtebcipkdnlfboaaGreat
open Go.Rt Go.RowKit
noncomputable section
theorem e_10 (a : PA te [.d (.st 4)]) : law13_small a.1 = evFun Tryz.prog te eqL tnil Tryz.f10 [.d (.st 4)] [(.bool, [])] (.s .p (.s .p (.s (.s .p (.lp ⟨[(30, .d (.int .i64))], [], [1, 29], [0], [], 16014⟩ ⟨[], [], [], [], [], 16014⟩ true .p)) .p))) a := by kernel_rfl
def c_10 : Con te := conOf te [.d (.st 4)] [(.bool, [])] false fun a => law13_small a.1
theorem ok_10 : Con.OK Tryz.prog te 10 c_10 ∧ bodyB Tryz.prog 10 = true := ⟨conOf_ok eqL_ok tnil_ok Tryz.func10 (by kernel_rfl) e_10, by kernel_rfl⟩
theorem e_38 (a : PA te [.d .str]) : user_Valid a.1 = evFun Tryz.prog te eqL tnil Tryz.f38 [.d .str] [(.bool, [])] (.s .p (.s .p (.s (.s .p (.lp ⟨[(16, .d (.int .i64))], [], [0, 15], [], [], 4007⟩ ⟨[], [], [], [], [], 4007⟩ true .p)) .p))) a := by kernel_rfl
def c_38 : Con te := conOf te [.d .str] [(.bool, [])] false fun a => user_Valid a.1
theorem ok_38 : Con.OK Tryz.prog te 38 c_38 ∧ bodyB Tryz.prog 38 = true := ⟨conOf_ok eqL_ok tnil_ok Tryz.func38 (by kernel_rfl) e_38, by kernel_rfl⟩
theorem e_95 (a : PA te [.mp 117 .str (.int .i64), .d (.sl .str)]) : user_members a.1 a.2.1 = evFun Tryz.prog te eqL tnil Tryz.f95 [.mp 117 .str (.int .i64), .d (.sl .str)] [(.int .i64, [])] (.s .p (.s (.s .p (.lp ⟨[(9, .d (.int .i64))], [], [0, 1, 7, 8], [0], [], 5⟩ ⟨[], [], [], [0], [], 5⟩ true .p)) .p)) a := by kernel_rfl
def c_95 : Con te := conOf te [.mp 117 .str (.int .i64), .d (.sl .str)] [(.int .i64, [])] false fun a => user_members a.1 a.2.1
theorem ok_95 : Con.OK Tryz.prog te 95 c_95 ∧ bodyB Tryz.prog 95 = true := ⟨conOf_ok eqL_ok tnil_ok Tryz.func95 (by kernel_rfl) e_95, by kernel_rfl⟩
theorem e_36 (a : PA te [.d (.sl (.st 0))]) : user_Check a.1 = evFun Tryz.prog te eqL (tb 95 c_95 (tb 38 c_38 tnil)) Tryz.f36 [.d (.sl (.st 0))] [(.int .i64, [])] (.s .p (.s .p (.s .p (.s (.s .p (.lp ⟨[(17, .d (.int .i64))], [(4, true, .map 117 .str (.int .i64))], [0, 3, 4, 15, 16], [6], [], 13⟩ ⟨[], [(4, true, .map 117 .str (.int .i64))], [0, 3, 4], [6], [], 13⟩ false .p)) (.s (.s .p (.lp ⟨[(29, .d (.int .i64))], [(4, true, .map 117 .str (.int .i64)), (6, true, .map 117 .str (.int .i64))], [3, 4, 27, 28], [], [], 16⟩ ⟨[], [], [], [], [], 16⟩ true .p)) .p))))) a := by kernel_rfl
def c_36 : Con te := conOf te [.d (.sl (.st 0))] [(.int .i64, [])] false fun a => user_Check a.1
theorem ok_36 : Con.OK Tryz.prog te 36 c_36 ∧ bodyB Tryz.prog 36 = true := ⟨conOf_ok eqL_ok (tb_ok ok_95 (tb_ok ok_38 tnil_ok)) Tryz.func36 (by kernel_rfl) e_36, by kernel_rfl⟩
theorem e_37 (a : PA te [.d (.sl (.st 1))]) : quota_Check a.1 = evFun Tryz.prog te eqL (tb 38 c_38 tnil) Tryz.f37 [.d (.sl (.st 1))] [(.int .i64, [])] (.s .p (.s .p (.s (.s .p (.lp ⟨[(10, .d (.int .i64))], [], [0, 8, 9], [], [], 7⟩ ⟨[], [], [], [], [], 7⟩ true (.s .p (.s .p (.s (.s .p (.s .p (.s .p (.s (.dr [0, 0, 0, 0, 0, 0, 0, 0, 0, 0, 0, 0, 0, 0] [] false []) .p)))) .p))))) .p))) a := by kernel_rfl
def c_37 : Con te := conOf te [.d (.sl (.st 1))] [(.int .i64, [])] false fun a => quota_Check a.1
theorem ok_37 : Con.OK Tryz.prog te 37 c_37 ∧ bodyB Tryz.prog 37 = true := ⟨conOf_ok eqL_ok (tb_ok ok_38 tnil_ok) Tryz.func37 (by kernel_rfl) e_37, by kernel_rfl⟩
theorem e_39 (a : PA te [.d (.sl (.st 0))]) : slices_Clone_apiUserapiUser a.1 = evFun Tryz.prog te eqL tnil Tryz.f39 [.d (.sl (.st 0))] [(.sl (.st 0), [some 68])] (.p : Pl) a := by kernel_rfl
def c_39 : Con te := conOf te [.d (.sl (.st 0))] [(.sl (.st 0), [some 68])] true fun a => slices_Clone_apiUserapiUser a.1
theorem ok_39 : Con.OK Tryz.prog te 39 c_39 ∧ bodyB Tryz.prog 39 = true := ⟨conOf_ok eqL_ok tnil_ok Tryz.func39 (by kernel_rfl) e_39, by kernel_rfl⟩
theorem e_40 (a : PA te [.d (.sl (.st 1))]) : slices_Clone_apiQuotaapiQuota a.1 = evFun Tryz.prog te eqL tnil Tryz.f40 [.d (.sl (.st 1))] [(.sl (.st 1), [some 70])] (.p : Pl) a := by kernel_rfl
def c_40 : Con te := conOf te [.d (.sl (.st 1))] [(.sl (.st 1), [some 70])] false fun a => slices_Clone_apiQuotaapiQuota a.1
theorem ok_40 : Con.OK Tryz.prog te 40 c_40 ∧ bodyB Tryz.prog 40 = true := ⟨conOf_ok eqL_ok tnil_ok Tryz.func40 (by kernel_rfl) e_40, by kernel_rfl⟩
theorem e_42 (a : PA te [.d (.int .i64)]) : filesrv_clock a.1 = evFun Tryz.prog te eqL tnil Tryz.f42 [.d (.int .i64)] [(.int .i64, [])] (.p : Pl) a := by kernel_rfl
def c_42 : Con te := conOf te [.d (.int .i64)] [(.int .i64, [])] false fun a => filesrv_clock a.1
theorem ok_42 : Con.OK Tryz.prog te 42 c_42 ∧ bodyB Tryz.prog 42 = true := ⟨conOf_ok eqL_ok tnil_ok Tryz.func42 (by kernel_rfl) e_42, by kernel_rfl⟩
theorem e_96 (a : PA te [.d .str]) : tree_short a.1 = evFun Tryz.prog te eqL tnil Tryz.f96 [.d .str] [(.str, [])] (.p : Pl) a := by kernel_rfl
def c_96 : Con te := conOf te [.d .str] [(.str, [])] false fun a => tree_short a.1
theorem ok_96 : Con.OK Tryz.prog te 96 c_96 ∧ bodyB Tryz.prog 96 = true := ⟨conOf_ok eqL_ok tnil_ok Tryz.func96 (by kernel_rfl) e_96, by kernel_rfl⟩
theorem e_97 (a : PA te [.d (.int .i64)]) : tree_clock a.1 = evFun Tryz.prog te eqL tnil Tryz.f97 [.d (.int .i64)] [(.int .i64, [])] (.p : Pl) a := by kernel_rfl
def c_97 : Con te := conOf te [.d (.int .i64)] [(.int .i64, [])] false fun a => tree_clock a.1
theorem ok_97 : Con.OK Tryz.prog te 97 c_97 ∧ bodyB Tryz.prog 97 = true := ⟨conOf_ok eqL_ok tnil_ok Tryz.func97 (by kernel_rfl) e_97, by kernel_rfl⟩
theorem e_41 (a : PA te [.d .str, .d (.int .i64), .d (.int .i64)]) : tree_New a.1 a.2.1 a.2.2.1 = evFun Tryz.prog te eqL (tb 97 c_97 (tb 96 c_96 tnil)) Tryz.f41 [.d .str, .d (.int .i64), .d (.int .i64)] [(.st 3, [none, some 60])] (.p : Pl) a := by kernel_rfl
def c_41 : Con te := conOf te [.d .str, .d (.int .i64), .d (.int .i64)] [(.st 3, [none, some 60])] false fun a => tree_New a.1 a.2.1 a.2.2.1
theorem ok_41 : Con.OK Tryz.prog te 41 c_41 ∧ bodyB Tryz.prog 41 = true := ⟨conOf_ok eqL_ok (tb_ok ok_97 (tb_ok ok_96 tnil_ok)) Tryz.func41 (by kernel_rfl) e_41, by kernel_rfl⟩
theorem e_43 (a : PA te [.d (.sl .str)]) : slices_Clone_stringstring a.1 = evFun Tryz.prog te eqL tnil Tryz.f43 [.d (.sl .str)] [(.sl .str, [some 9])] (.p : Pl) a := by kernel_rfl
def c_43 : Con te := conOf te [.d (.sl .str)] [(.sl .str, [some 9])] false fun a => slices_Clone_stringstring a.1
theorem ok_43 : Con.OK Tryz.prog te 43 c_43 ∧ bodyB Tryz.prog 43 = true := ⟨conOf_ok eqL_ok tnil_ok Tryz.func43 (by kernel_rfl) e_43, by kernel_rfl⟩
theorem e_12 (a : PA te [.d (.sl (.st 0)), .d (.sl (.st 1)), .d .str, .d (.int .i64)]) : filesrv_New a.1 a.2.1 a.2.2.1 a.2.2.2.1 = evFun Tryz.prog te eqL (tb 43 c_43 (tb 41 c_41 (tb 42 c_42 (tb 40 c_40 (tb 39 c_39 (tb 38 c_38 (tb 37 c_37 (tb 36 c_36 tnil)))))))) Tryz.f12 [.d (.sl (.st 0)), .d (.sl (.st 1)), .d .str, .d (.int .i64)] [(.st 4, [some 68, some 70, none, some 60]), (.int .i64, [])] (.s .p (.s .p (.s .p (.s .p (.s .p (.s (.s .p (.lp ⟨[(42, .d (.int .i64))], [(17, true, .row 68 (.st 0) [])], [8, 12, 41], [0, 20, 25, 28], [], 36⟩ ⟨[], [(17, true, .row 68 (.st 0) [])], [8, 12], [0, 20, 25, 28], [], 36⟩ false (.s .p (.s .p (.s (.s .p (.dr [0, 0, 0, 0, 0, 0, 0, 0, 0, 1, 1, 4, 2] [] false [])) .p))))) .p)))))) a := by kernel_rfl
def c_12 : Con te := conOf te [.d (.sl (.st 0)), .d (.sl (.st 1)), .d .str, .d (.int .i64)] [(.st 4, [some 68, some 70, none, some 60]), (.int .i64, [])] true fun a => filesrv_New a.1 a.2.1 a.2.2.1 a.2.2.2.1
theorem ok_12 : Con.OK Tryz.prog te 12 c_12 ∧ bodyB Tryz.prog 12 = true := ⟨conOf_ok eqL_ok (tb_ok ok_43 (tb_ok ok_41 (tb_ok ok_42 (tb_ok ok_40 (tb_ok ok_39 (tb_ok ok_38 (tb_ok ok_37 (tb_ok ok_36 tnil_ok)))))))) Tryz.func12 (by kernel_rfl) e_12, by kernel_rfl⟩
theorem e_133 (a : PA te [.d (.sl (.st 2))]) : slices_Clone_apiNodeapiNode a.1 = evFun Tryz.prog te eqL tnil Tryz.f133 [.d (.sl (.st 2))] [(.sl (.st 2), [some 60])] (.p : Pl) a := by kernel_rfl
def c_133 : Con te := conOf te [.d (.sl (.st 2))] [(.sl (.st 2), [some 60])] false fun a => slices_Clone_apiNodeapiNode a.1
theorem ok_133 : Con.OK Tryz.prog te 133 c_133 ∧ bodyB Tryz.prog 133 = true := ⟨conOf_ok eqL_ok tnil_ok Tryz.func133 (by kernel_rfl) e_133, by kernel_rfl⟩
theorem e_134 (a : PA te [.d (.sl (.int .i64))]) : slices_Clone_intint a.1 = evFun Tryz.prog te eqL tnil Tryz.f134 [.d (.sl (.int .i64))] [(.sl (.int .i64), [some 3])] (.p : Pl) a := by kernel_rfl
def c_134 : Con te := conOf te [.d (.sl (.int .i64))] [(.sl (.int .i64), [some 3])] false fun a => slices_Clone_intint a.1
theorem ok_134 : Con.OK Tryz.prog te 134 c_134 ∧ bodyB Tryz.prog 134 = true := ⟨conOf_ok eqL_ok tnil_ok Tryz.func134 (by kernel_rfl) e_134, by kernel_rfl⟩
theorem e_81 (a : PA te [.d (.st 4)]) : filesrv_fresh a.1 = evFun Tryz.prog te eqL (tb 134 c_134 (tb 40 c_40 (tb 133 c_133 (tb 43 c_43 (tb 39 c_39 tnil))))) Tryz.f81 [.d (.st 4)] [(.st 4, [some 68, some 70, none, some 60, some 3])] (.s .p (.s .p (.s (.s .p (.lp ⟨[(11, .d (.int .i64))], [(6, true, .row 68 (.st 0) [])], [1, 2, 3, 10], [0, 2], [], 12⟩ ⟨[], [(6, true, .row 68 (.st 0) [])], [1, 2, 3], [0, 2], [], 12⟩ false .p)) (.s (.df [0, 0, 0, 0, 0, 0, 1, 4, 1, 2] [] 2) (.s (.dr [0, 0, 0, 1, 0, 0, 0, 1, 4, 2] [4, 5, 6] false []) .p))))) a := by kernel_rfl
def c_81 : Con te := conOf te [.d (.st 4)] [(.st 4, [some 68, some 70, none, some 60, some 3])] true fun a => filesrv_fresh a.1
theorem ok_81 : Con.OK Tryz.prog te 81 c_81 ∧ bodyB Tryz.prog 81 = true := ⟨conOf_ok eqL_ok (tb_ok ok_134 (tb_ok ok_40 (tb_ok ok_133 (tb_ok ok_43 (tb_ok ok_39 tnil_ok))))) Tryz.func81 (by kernel_rfl) e_81, by kernel_rfl⟩
theorem e_154 (a : PA te [.d (.st 3), .f1 (.st 2) .bool]) : tree_find a.1 a.2.1 = evFun Tryz.prog te eqL tnil Tryz.f154 [.d (.st 3), .f1 (.st 2) .bool] [(.int .i64, [])] (.s .p (.s (.s .p (.lp ⟨[(10, .d (.int .i64))], [], [1, 8, 9], [], [], 7⟩ ⟨[], [], [], [], [], 7⟩ true .p)) .p)) a := by kernel_rfl
def c_154 : Con te := conOf te [.d (.st 3), .f1 (.st 2) .bool] [(.int .i64, [])] false fun a => tree_find a.1 a.2.1
theorem ok_154 : Con.OK Tryz.prog te 154 c_154 ∧ bodyB Tryz.prog 154 = true := ⟨conOf_ok eqL_ok tnil_ok Tryz.func154 (by kernel_rfl) e_154, by kernel_rfl⟩
theorem e_155 (a : PA te [.d (.st 2), .p (.int .i64)]) : tree_index_1 a.1 a.2.1 = evFun Tryz.prog te eqL tnil Tryz.f155 [.d (.st 2), .p (.int .i64)] [(.bool, [])] (.p : Pl) a := by kernel_rfl
def c_155 : Con te := conOf te [.d (.st 2), .p (.int .i64)] [(.bool, [])] false fun a => tree_index_1 a.1 a.2.1
theorem ok_155 : Con.OK Tryz.prog te 155 c_155 ∧ bodyB Tryz.prog 155 = true := ⟨conOf_ok eqL_ok tnil_ok Tryz.func155 (by kernel_rfl) e_155, by kernel_rfl⟩
theorem e_105 (a : PA te [.d (.st 3), .d (.int .i64)]) : tree_index a.1 a.2.1 = evFun Tryz.prog te eqL (tb 155 c_155 (tb 154 c_154 tnil)) Tryz.f105 [.d (.st 3), .d (.int .i64)] [(.int .i64, [])] (.p : Pl) a := by kernel_rfl
def c_105 : Con te := conOf te [.d (.st 3), .d (.int .i64)] [(.int .i64, [])] false fun a => tree_index a.1 a.2.1
theorem ok_105 : Con.OK Tryz.prog te 105 c_105 ∧ bodyB Tryz.prog 105 = true := ⟨conOf_ok eqL_ok (tb_ok ok_155 (tb_ok ok_154 tnil_ok)) Tryz.func105 (by kernel_rfl) e_105, by kernel_rfl⟩
theorem e_54 (a : PA te [.d (.st 3), .d (.int .i64)]) : tree_Node a.1 a.2.1 = evFun Tryz.prog te eqL (tb 105 c_105 tnil) Tryz.f54 [.d (.st 3), .d (.int .i64)] [(.st 2, []), (.bool, [])] (.p : Pl) a := by kernel_rfl
def c_54 : Con te := conOf te [.d (.st 3), .d (.int .i64)] [(.st 2, []), (.bool, [])] false fun a => tree_Node a.1 a.2.1
theorem ok_54 : Con.OK Tryz.prog te 54 c_54 ∧ bodyB Tryz.prog 54 = true := ⟨conOf_ok eqL_ok (tb_ok ok_105 tnil_ok) Tryz.func54 (by kernel_rfl) e_54, by kernel_rfl⟩
theorem e_86 (a : PA te [.d (.st 4), .d .str, .d (.int .i64)]) : filesrv_file a.1 a.2.1 a.2.2.1 = evFun Tryz.prog te eqL (tb 54 c_54 (tb 38 c_38 tnil)) Tryz.f86 [.d (.st 4), .d .str, .d (.int .i64)] [(.st 2, []), (.int .i64, [])] (.p : Pl) a := by kernel_rfl
def c_86 : Con te := conOf te [.d (.st 4), .d .str, .d (.int .i64)] [(.st 2, []), (.int .i64, [])] false fun a => filesrv_file a.1 a.2.1 a.2.2.1
theorem ok_86 : Con.OK Tryz.prog te 86 c_86 ∧ bodyB Tryz.prog 86 = true := ⟨conOf_ok eqL_ok (tb_ok ok_54 (tb_ok ok_38 tnil_ok)) Tryz.func86 (by kernel_rfl) e_86, by kernel_rfl⟩
theorem e_55 (a : PA te [.d (.int .i64), .d (.int .i64)]) : filesrv_contains a.1 a.2.1 = evFun Tryz.prog te eqL tnil Tryz.f55 [.d (.int .i64), .d (.int .i64)] [(.bool, [])] (.p : Pl) a := by kernel_rfl
def c_55 : Con te := conOf te [.d (.int .i64), .d (.int .i64)] [(.bool, [])] false fun a => filesrv_contains a.1 a.2.1
theorem ok_55 : Con.OK Tryz.prog te 55 c_55 ∧ bodyB Tryz.prog 55 = true := ⟨conOf_ok eqL_ok tnil_ok Tryz.func55 (by kernel_rfl) e_55, by kernel_rfl⟩
theorem e_58 (a : PA te [.d (.st 4), .d .str, .d (.int .i64)]) : filesrv_directory a.1 a.2.1 a.2.2.1 = evFun Tryz.prog te eqL (tb 55 c_55 (tb 86 c_86 tnil)) Tryz.f58 [.d (.st 4), .d .str, .d (.int .i64)] [(.st 2, []), (.int .i64, [])] (.s .p (.s .p (.j ⟨[(9, .d (.int .i64))], [], [6, 8], [2, 12], [], 17⟩ false .p .p))) a := by kernel_rfl
def c_58 : Con te := conOf te [.d (.st 4), .d .str, .d (.int .i64)] [(.st 2, []), (.int .i64, [])] false fun a => filesrv_directory a.1 a.2.1 a.2.2.1
theorem ok_58 : Con.OK Tryz.prog te 58 c_58 ∧ bodyB Tryz.prog 58 = true := ⟨conOf_ok eqL_ok (tb_ok ok_55 (tb_ok ok_86 tnil_ok)) Tryz.func58 (by kernel_rfl) e_58, by kernel_rfl⟩
theorem e_104 (a : PA te [.d .str]) : path_Valid a.1 = evFun Tryz.prog te eqL tnil Tryz.f104 [.d .str] [(.bool, [])] (.s .p (.s .p (.s (.s .p (.lp ⟨[(21, .d (.int .i64))], [], [0, 20], [], [], 10009⟩ ⟨[], [], [], [], [], 10009⟩ true .p)) .p))) a := by kernel_rfl
def c_104 : Con te := conOf te [.d .str] [(.bool, [])] false fun a => path_Valid a.1
theorem ok_104 : Con.OK Tryz.prog te 104 c_104 ∧ bodyB Tryz.prog 104 = true := ⟨conOf_ok eqL_ok tnil_ok Tryz.func104 (by kernel_rfl) e_104, by kernel_rfl⟩
theorem e_135 (a : PA te [.d (.int .i64)]) : filesrv_creatable a.1 = evFun Tryz.prog te eqL tnil Tryz.f135 [.d (.int .i64)] [(.bool, [])] (.p : Pl) a := by kernel_rfl
def c_135 : Con te := conOf te [.d (.int .i64)] [(.bool, [])] false fun a => filesrv_creatable a.1
theorem ok_135 : Con.OK Tryz.prog te 135 c_135 ∧ bodyB Tryz.prog 135 = true := ⟨conOf_ok eqL_ok tnil_ok Tryz.func135 (by kernel_rfl) e_135, by kernel_rfl⟩
theorem e_138 (a : PA te [.d (.int .i64), .d (.int .i64)]) : perm_has a.1 a.2.1 = evFun Tryz.prog te eqL tnil Tryz.f138 [.d (.int .i64), .d (.int .i64)] [(.bool, [])] (.p : Pl) a := by kernel_rfl
def c_138 : Con te := conOf te [.d (.int .i64), .d (.int .i64)] [(.bool, [])] false fun a => perm_has a.1 a.2.1
theorem ok_138 : Con.OK Tryz.prog te 138 c_138 ∧ bodyB Tryz.prog 138 = true := ⟨conOf_ok eqL_ok tnil_ok Tryz.func138 (by kernel_rfl) e_138, by kernel_rfl⟩
theorem e_136 (a : PA te [.d (.int .i64)]) : perm_Open a.1 = evFun Tryz.prog te eqL (tb 138 c_138 tnil) Tryz.f136 [.d (.int .i64)] [(.int .i64, []), (.int .i64, [])] (.s .p (.s .p (.j ⟨[(4, .d (.int .i64))], [], [0], [], [], 4⟩ false .p (.j ⟨[(4, .d (.int .i64))], [], [0], [], [], 4⟩ false .p (.s .p (.s .p (.j ⟨[(5, .d (.int .i64))], [], [], [], [], 3014⟩ false .p .p))))))) a := by kernel_rfl
def c_136 : Con te := conOf te [.d (.int .i64)] [(.int .i64, []), (.int .i64, [])] false fun a => perm_Open a.1
theorem ok_136 : Con.OK Tryz.prog te 136 c_136 ∧ bodyB Tryz.prog 136 = true := ⟨conOf_ok eqL_ok (tb_ok ok_138 tnil_ok) Tryz.func136 (by kernel_rfl) e_136, by kernel_rfl⟩
theorem e_181 (a : PA te [.d (.sl (.st 0)), .d .str]) : user_Find a.1 a.2.1 = evFun Tryz.prog te eqL (tb 43 c_43 tnil) Tryz.f181 [.d (.sl (.st 0)), .d .str] [(.st 0, [none, none, some 9]), (.bool, [])] (.s .p (.s (.s .p (.lp ⟨[(10, .d (.int .i64))], [], [1, 4, 8, 9], [0], [], 6⟩ ⟨[], [], [4], [0], [], 6⟩ true .p)) .p)) a := by kernel_rfl
def c_181 : Con te := conOf te [.d (.sl (.st 0)), .d .str] [(.st 0, [none, none, some 9]), (.bool, [])] false fun a => user_Find a.1 a.2.1
theorem ok_181 : Con.OK Tryz.prog te 181 c_181 ∧ bodyB Tryz.prog 181 = true := ⟨conOf_ok eqL_ok (tb_ok ok_43 tnil_ok) Tryz.func181 (by kernel_rfl) e_181, by kernel_rfl⟩
theorem e_198 (a : PA te [.d (.sl .str), .d .str]) : slices_Index_stringstring a.1 a.2.1 = evFun Tryz.prog te eqL tnil Tryz.f198 [.d (.sl .str), .d .str] [(.int .i64, [])] (.s .p (.s (.s .p (.lp ⟨[(8, .d (.int .i64))], [], [0, 1, 7], [], [], 4⟩ ⟨[], [], [], [], [], 4⟩ true .p)) .p)) a := by kernel_rfl
def c_198 : Con te := conOf te [.d (.sl .str), .d .str] [(.int .i64, [])] false fun a => slices_Index_stringstring a.1 a.2.1
theorem ok_198 : Con.OK Tryz.prog te 198 c_198 ∧ bodyB Tryz.prog 198 = true := ⟨conOf_ok eqL_ok tnil_ok Tryz.func198 (by kernel_rfl) e_198, by kernel_rfl⟩
theorem e_183 (a : PA te [.d (.sl .str), .d .str]) : slices_Contains_stringstring a.1 a.2.1 = evFun Tryz.prog te eqL (tb 198 c_198 tnil) Tryz.f183 [.d (.sl .str), .d .str] [(.bool, [])] (.p : Pl) a := by kernel_rfl
def c_183 : Con te := conOf te [.d (.sl .str), .d .str] [(.bool, [])] false fun a => slices_Contains_stringstring a.1 a.2.1
theorem ok_183 : Con.OK Tryz.prog te 183 c_183 ∧ bodyB Tryz.prog 183 = true := ⟨conOf_ok eqL_ok (tb_ok ok_198 tnil_ok) Tryz.func183 (by kernel_rfl) e_183, by kernel_rfl⟩
theorem e_157 (a : PA te [.d (.sl (.st 0)), .d .str, .d .str]) : user_Member a.1 a.2.1 a.2.2.1 = evFun Tryz.prog te eqL (tb 183 c_183 (tb 181 c_181 tnil)) Tryz.f157 [.d (.sl (.st 0)), .d .str, .d .str] [(.bool, [])] (.p : Pl) a := by kernel_rfl
def c_157 : Con te := conOf te [.d (.sl (.st 0)), .d .str, .d .str] [(.bool, [])] false fun a => user_Member a.1 a.2.1 a.2.2.1
theorem ok_157 : Con.OK Tryz.prog te 157 c_157 ∧ bodyB Tryz.prog 157 = true := ⟨conOf_ok eqL_ok (tb_ok ok_183 (tb_ok ok_181 tnil_ok)) Tryz.func157 (by kernel_rfl) e_157, by kernel_rfl⟩
theorem e_109 (a : PA te [.d (.sl (.st 0)), .d .str, .d .str, .d .str, .d (.int .i64), .d (.int .i64)]) : perm_Allows a.1 a.2.1 a.2.2.1 a.2.2.2.1 a.2.2.2.2.1 a.2.2.2.2.2.1 = evFun Tryz.prog te eqL (tb 157 c_157 tnil) Tryz.f109 [.d (.sl (.st 0)), .d .str, .d .str, .d .str, .d (.int .i64), .d (.int .i64)] [(.bool, [])] (.s .p (.s .p (.s .p (.j ⟨[(13, .d (.int .i64))], [], [1, 2, 4, 5], [], [], 6008⟩ false .p (.j ⟨[(13, .d (.int .i64))], [], [5], [], [], 6008⟩ false .p .p))))) a := by kernel_rfl
def c_109 : Con te := conOf te [.d (.sl (.st 0)), .d .str, .d .str, .d .str, .d (.int .i64), .d (.int .i64)] [(.bool, [])] false fun a => perm_Allows a.1 a.2.1 a.2.2.1 a.2.2.2.1 a.2.2.2.2.1 a.2.2.2.2.2.1
theorem ok_109 : Con.OK Tryz.prog te 109 c_109 ∧ bodyB Tryz.prog 109 = true := ⟨conOf_ok eqL_ok (tb_ok ok_157 tnil_ok) Tryz.func109 (by kernel_rfl) e_109, by kernel_rfl⟩
theorem e_59 (a : PA te [.d (.st 4), .d .str, .d (.st 2), .d (.int .i64)]) : filesrv_may a.1 a.2.1 a.2.2.1 a.2.2.2.1 = evFun Tryz.prog te eqL (tb 109 c_109 tnil) Tryz.f59 [.d (.st 4), .d .str, .d (.st 2), .d (.int .i64)] [(.bool, [])] (.p : Pl) a := by kernel_rfl
def c_59 : Con te := conOf te [.d (.st 4), .d .str, .d (.st 2), .d (.int .i64)] [(.bool, [])] false fun a => filesrv_may a.1 a.2.1 a.2.2.1 a.2.2.2.1
theorem ok_59 : Con.OK Tryz.prog te 59 c_59 ∧ bodyB Tryz.prog 59 = true := ⟨conOf_ok eqL_ok (tb_ok ok_109 tnil_ok) Tryz.func59 (by kernel_rfl) e_59, by kernel_rfl⟩
theorem e_103 (a : PA te [.d (.int .i64)]) : tree_directory a.1 = evFun Tryz.prog te eqL tnil Tryz.f103 [.d (.int .i64)] [(.bool, [])] (.p : Pl) a := by kernel_rfl
def c_103 : Con te := conOf te [.d (.int .i64)] [(.bool, [])] false fun a => tree_directory a.1
theorem ok_103 : Con.OK Tryz.prog te 103 c_103 ∧ bodyB Tryz.prog 103 = true := ⟨conOf_ok eqL_ok tnil_ok Tryz.func103 (by kernel_rfl) e_103, by kernel_rfl⟩
theorem e_110 (a : PA te [.d (.st 3), .d (.int .i64)]) : tree_within a.1 a.2.1 = evFun Tryz.prog te eqL (tb 103 c_103 (tb 54 c_54 tnil)) Tryz.f110 [.d (.st 3), .d (.int .i64)] [(.int .i64, [])] (.p : Pl) a := by kernel_rfl
def c_110 : Con te := conOf te [.d (.st 3), .d (.int .i64)] [(.int .i64, [])] false fun a => tree_within a.1 a.2.1
theorem ok_110 : Con.OK Tryz.prog te 110 c_110 ∧ bodyB Tryz.prog 110 = true := ⟨conOf_ok eqL_ok (tb_ok ok_103 (tb_ok ok_54 tnil_ok)) Tryz.func110 (by kernel_rfl) e_110, by kernel_rfl⟩
theorem e_158 (a : PA te [.d (.st 2), .p (.int .i64), .p .str]) : tree_child_1 a.1 a.2.1 a.2.2.1 = evFun Tryz.prog te eqL tnil Tryz.f158 [.d (.st 2), .p (.int .i64), .p .str] [(.bool, [])] (.p : Pl) a := by kernel_rfl
def c_158 : Con te := conOf te [.d (.st 2), .p (.int .i64), .p .str] [(.bool, [])] false fun a => tree_child_1 a.1 a.2.1 a.2.2.1
theorem ok_158 : Con.OK Tryz.prog te 158 c_158 ∧ bodyB Tryz.prog 158 = true := ⟨conOf_ok eqL_ok tnil_ok Tryz.func158 (by kernel_rfl) e_158, by kernel_rfl⟩
theorem e_111 (a : PA te [.d (.st 3), .d (.int .i64), .d .str]) : tree_child a.1 a.2.1 a.2.2.1 = evFun Tryz.prog te eqL (tb 158 c_158 (tb 154 c_154 tnil)) Tryz.f111 [.d (.st 3), .d (.int .i64), .d .str] [(.int .i64, [])] (.p : Pl) a := by kernel_rfl
def c_111 : Con te := conOf te [.d (.st 3), .d (.int .i64), .d .str] [(.int .i64, [])] false fun a => tree_child a.1 a.2.1 a.2.2.1
theorem ok_111 : Con.OK Tryz.prog te 111 c_111 ∧ bodyB Tryz.prog 111 = true := ⟨conOf_ok eqL_ok (tb_ok ok_158 (tb_ok ok_154 tnil_ok)) Tryz.func111 (by kernel_rfl) e_111, by kernel_rfl⟩
theorem e_60 (a : PA te [.d (.st 3), .d (.int .i64), .d .str]) : tree_Find a.1 a.2.1 a.2.2.1 = evFun Tryz.prog te eqL (tb 111 c_111 (tb 54 c_54 (tb 110 c_110 tnil))) Tryz.f60 [.d (.st 3), .d (.int .i64), .d .str] [(.int .i64, []), (.int .i64, [])] (.p : Pl) a := by kernel_rfl
def c_60 : Con te := conOf te [.d (.st 3), .d (.int .i64), .d .str] [(.int .i64, []), (.int .i64, [])] false fun a => tree_Find a.1 a.2.1 a.2.2.1
theorem ok_60 : Con.OK Tryz.prog te 60 c_60 ∧ bodyB Tryz.prog 60 = true := ⟨conOf_ok eqL_ok (tb_ok ok_111 (tb_ok ok_54 (tb_ok ok_110 tnil_ok))) Tryz.func60 (by kernel_rfl) e_60, by kernel_rfl⟩
theorem e_173 (a : PA te [.d (.sl (.st 1)), .d .str]) : quota_Find a.1 a.2.1 = evFun Tryz.prog te eqL tnil Tryz.f173 [.d (.sl (.st 1)), .d .str] [(.st 1, []), (.bool, [])] (.s .p (.s (.s .p (.lp ⟨[(10, .d (.int .i64))], [], [1, 4, 8, 9], [0], [], 6⟩ ⟨[], [], [4], [0], [], 6⟩ true .p)) .p)) a := by kernel_rfl
def c_173 : Con te := conOf te [.d (.sl (.st 1)), .d .str] [(.st 1, []), (.bool, [])] false fun a => quota_Find a.1 a.2.1
theorem ok_173 : Con.OK Tryz.prog te 173 c_173 ∧ bodyB Tryz.prog 173 = true := ⟨conOf_ok eqL_ok tnil_ok Tryz.func173 (by kernel_rfl) e_173, by kernel_rfl⟩
theorem e_174 (a : PA te [.d (.st 3), .d .str]) : quota_Used a.1 a.2.1 = evFun Tryz.prog te eqL tnil Tryz.f174 [.d (.st 3), .d .str] [(.int .i64, []), (.int .i64, [])] (.s .p (.s .p (.s (.s .p (.lp ⟨[(6, .d (.int .i64)), (7, .d (.int .i64)), (13, .d (.int .i64))], [], [1, 11, 12], [], [], 10⟩ ⟨[(6, .d (.int .i64)), (7, .d (.int .i64))], [], [], [], [], 10⟩ false (.s .p (.s .p (.j ⟨[(6, .d (.int .i64)), (7, .d (.int .i64))], [], [1, 11, 12, 13], [], [], 11⟩ false .p .p))))) .p))) a := by kernel_rfl
def c_174 : Con te := conOf te [.d (.st 3), .d .str] [(.int .i64, []), (.int .i64, [])] false fun a => quota_Used a.1 a.2.1
theorem ok_174 : Con.OK Tryz.prog te 174 c_174 ∧ bodyB Tryz.prog 174 = true := ⟨conOf_ok eqL_ok tnil_ok Tryz.func174 (by kernel_rfl) e_174, by kernel_rfl⟩
theorem e_137 (a : PA te [.d (.sl (.st 1)), .d (.st 3), .d .str, .d (.int .i64), .d (.int .i64)]) : quota_Fits a.1 a.2.1 a.2.2.1 a.2.2.2.1 a.2.2.2.2.1 = evFun Tryz.prog te eqL (tb 174 c_174 (tb 173 c_173 tnil)) Tryz.f137 [.d (.sl (.st 1)), .d (.st 3), .d .str, .d (.int .i64), .d (.int .i64)] [(.bool, [])] (.p : Pl) a := by kernel_rfl
def c_137 : Con te := conOf te [.d (.sl (.st 1)), .d (.st 3), .d .str, .d (.int .i64), .d (.int .i64)] [(.bool, [])] false fun a => quota_Fits a.1 a.2.1 a.2.2.1 a.2.2.2.1 a.2.2.2.2.1
theorem ok_137 : Con.OK Tryz.prog te 137 c_137 ∧ bodyB Tryz.prog 137 = true := ⟨conOf_ok eqL_ok (tb_ok ok_174 (tb_ok ok_173 tnil_ok)) Tryz.func137 (by kernel_rfl) e_137, by kernel_rfl⟩
theorem e_82 (a : PA te [.d (.st 4), .d .str, .d (.st 2), .d .str, .d (.int .i64), .d (.int .i64)]) : filesrv_makes a.1 a.2.1 a.2.2.1 a.2.2.2.1 a.2.2.2.2.1 a.2.2.2.2.2.1 = evFun Tryz.prog te eqL (tb 137 c_137 (tb 60 c_60 (tb 59 c_59 (tb 55 c_55 (tb 136 c_136 (tb 135 c_135 (tb 104 c_104 tnil))))))) Tryz.f82 [.d (.st 4), .d .str, .d (.st 2), .d .str, .d (.int .i64), .d (.int .i64)] [(.int .i64, [])] (.p : Pl) a := by kernel_rfl
def c_82 : Con te := conOf te [.d (.st 4), .d .str, .d (.st 2), .d .str, .d (.int .i64), .d (.int .i64)] [(.int .i64, [])] false fun a => filesrv_makes a.1 a.2.1 a.2.2.1 a.2.2.2.1 a.2.2.2.2.1 a.2.2.2.2.2.1
theorem ok_82 : Con.OK Tryz.prog te 82 c_82 ∧ bodyB Tryz.prog 82 = true := ⟨conOf_ok eqL_ok (tb_ok ok_137 (tb_ok ok_60 (tb_ok ok_59 (tb_ok ok_55 (tb_ok ok_136 (tb_ok ok_135 (tb_ok ok_104 tnil_ok))))))) Tryz.func82 (by kernel_rfl) e_82, by kernel_rfl⟩
theorem e_83 (a : PA te [.d (.int .i64), .d (.int .i64)]) : perm_Inherit a.1 a.2.1 = evFun Tryz.prog te eqL (tb 138 c_138 tnil) Tryz.f83 [.d (.int .i64), .d (.int .i64)] [(.int .i64, [])] (.s .p (.s .p (.s .p (.j ⟨[(5, .d (.int .i64))], [], [0, 1], [], [], 3005⟩ false .p .p)))) a := by kernel_rfl
def c_83 : Con te := conOf te [.d (.int .i64), .d (.int .i64)] [(.int .i64, [])] false fun a => perm_Inherit a.1 a.2.1
theorem ok_83 : Con.OK Tryz.prog te 83 c_83 ∧ bodyB Tryz.prog 83 = true := ⟨conOf_ok eqL_ok (tb_ok ok_138 tnil_ok) Tryz.func83 (by kernel_rfl) e_83, by kernel_rfl⟩
theorem e_139 (a : PA te [.d (.st 3)]) : tree_clone a.1 = evFun Tryz.prog te eqL tnil Tryz.f139 [.d (.st 3)] [(.st 3, [none, some 60])] (.p : Pl) a := by kernel_rfl
def c_139 : Con te := conOf te [.d (.st 3)] [(.st 3, [none, some 60])] false fun a => tree_clone a.1
theorem ok_139 : Con.OK Tryz.prog te 139 c_139 ∧ bodyB Tryz.prog 139 = true := ⟨conOf_ok eqL_ok tnil_ok Tryz.func139 (by kernel_rfl) e_139, by kernel_rfl⟩
theorem e_140 (a : PA te [.d (.int .i64)]) : tree_valid a.1 = evFun Tryz.prog te eqL tnil Tryz.f140 [.d (.int .i64)] [(.bool, [])] (.s .p (.s .p (.s (.s .p (.j ⟨[(9, .d .bool)], [], [], [], [], 7⟩ false .p .p)) .p))) a := by kernel_rfl
def c_140 : Con te := conOf te [.d (.int .i64)] [(.bool, [])] false fun a => tree_valid a.1
theorem ok_140 : Con.OK Tryz.prog te 140 c_140 ∧ bodyB Tryz.prog 140 = true := ⟨conOf_ok eqL_ok tnil_ok Tryz.func140 (by kernel_rfl) e_140, by kernel_rfl⟩
theorem e_141 (a : PA te [.l (.st 3) [none, some 60], .d (.int .i64), .d .str, .d (.int .i64)]) : tree_change a.1 a.2.1 a.2.2.1 a.2.2.2.1 = evFun Tryz.prog te eqL (tb 96 c_96 (tb 97 c_97 tnil)) Tryz.f141 [.l (.st 3) [none, some 60], .d (.int .i64), .d .str, .d (.int .i64)] [] (.s .p (.s .p (.s .p (.j ⟨[], [(0, true, .row 60 (.st 2) [(6, 8)])], [2, 3, 8], [], [6], 18⟩ false .p .p)))) a := by kernel_rfl
def c_141 : Con te := conOf te [.l (.st 3) [none, some 60], .d (.int .i64), .d .str, .d (.int .i64)] [] false fun a => tree_change a.1 a.2.1 a.2.2.1 a.2.2.2.1
theorem ok_141 : Con.OK Tryz.prog te 141 c_141 ∧ bodyB Tryz.prog 141 = true := ⟨conOf_ok eqL_ok (tb_ok ok_96 (tb_ok ok_97 tnil_ok)) Tryz.func141 (by kernel_rfl) e_141, by kernel_rfl⟩
theorem e_84 (a : PA te [.d (.st 3), .d (.int .i64), .d .str, .d (.int .i64), .d .str, .d .str, .d (.int .i64)]) : tree_Create a.1 a.2.1 a.2.2.1 a.2.2.2.1 a.2.2.2.2.1 a.2.2.2.2.2.1 a.2.2.2.2.2.2.1 = evFun Tryz.prog te eqL (tb 96 c_96 (tb 97 c_97 (tb 141 c_141 (tb 105 c_105 (tb 111 c_111 (tb 140 c_140 (tb 104 c_104 (tb 139 c_139 (tb 110 c_110 tnil))))))))) Tryz.f84 [.d (.st 3), .d (.int .i64), .d .str, .d (.int .i64), .d .str, .d .str, .d (.int .i64)] [(.st 3, [none, some 60]), (.int .i64, []), (.int .i64, [])] (.s .p (.s .p (.s .p (.s .p (.s (.dr [0, 0, 0, 0, 0, 0, 2] [] false []) (.s .p (.s (.dr [0, 0, 0, 0, 0, 0, 0, 0, 0, 0, 0, 0, 0, 0, 0, 0, 1, 2, 4, 2] [] false []) (.s .p (.s (.dr [0, 0, 0, 1, 4, 4] [] true [2]) .p))))))))) a := by kernel_rfl
def c_84 : Con te := conOf te [.d (.st 3), .d (.int .i64), .d .str, .d (.int .i64), .d .str, .d .str, .d (.int .i64)] [(.st 3, [none, some 60]), (.int .i64, []), (.int .i64, [])] false fun a => tree_Create a.1 a.2.1 a.2.2.1 a.2.2.2.1 a.2.2.2.2.1 a.2.2.2.2.2.1 a.2.2.2.2.2.2.1
theorem ok_84 : Con.OK Tryz.prog te 84 c_84 ∧ bodyB Tryz.prog 84 = true := ⟨conOf_ok eqL_ok (tb_ok ok_96 (tb_ok ok_97 (tb_ok ok_141 (tb_ok ok_105 (tb_ok ok_111 (tb_ok ok_140 (tb_ok ok_104 (tb_ok ok_139 (tb_ok ok_110 tnil_ok))))))))) Tryz.func84 (by kernel_rfl) e_84, by kernel_rfl⟩
theorem e_190 (a : PA te [.d (.int .i64)]) : cmp_isNaN_int a.1 = evFun Tryz.prog te eqL tnil Tryz.f190 [.d (.int .i64)] [(.bool, [])] (.p : Pl) a := by kernel_rfl
def c_190 : Con te := conOf te [.d (.int .i64)] [(.bool, [])] false fun a => cmp_isNaN_int a.1
theorem ok_190 : Con.OK Tryz.prog te 190 c_190 ∧ bodyB Tryz.prog 190 = true := ⟨conOf_ok eqL_ok tnil_ok Tryz.func190 (by kernel_rfl) e_190, by kernel_rfl⟩
theorem e_175 (a : PA te [.d (.int .i64), .d (.int .i64)]) : cmp_Less_int a.1 a.2.1 = evFun Tryz.prog te eqL (tb 190 c_190 tnil) Tryz.f175 [.d (.int .i64), .d (.int .i64)] [(.bool, [])] (.p : Pl) a := by kernel_rfl
def c_175 : Con te := conOf te [.d (.int .i64), .d (.int .i64)] [(.bool, [])] false fun a => cmp_Less_int a.1 a.2.1
theorem ok_175 : Con.OK Tryz.prog te 175 c_175 ∧ bodyB Tryz.prog 175 = true := ⟨conOf_ok eqL_ok (tb_ok ok_190 tnil_ok) Tryz.func175 (by kernel_rfl) e_175, by kernel_rfl⟩
theorem e_176 (a : PA te [.d (.int .i64)]) : slices_isNaN_int a.1 = evFun Tryz.prog te eqL tnil Tryz.f176 [.d (.int .i64)] [(.bool, [])] (.p : Pl) a := by kernel_rfl
def c_176 : Con te := conOf te [.d (.int .i64)] [(.bool, [])] false fun a => slices_isNaN_int a.1
theorem ok_176 : Con.OK Tryz.prog te 176 c_176 ∧ bodyB Tryz.prog 176 = true := ⟨conOf_ok eqL_ok tnil_ok Tryz.func176 (by kernel_rfl) e_176, by kernel_rfl⟩
theorem e_142 (a : PA te [.d (.sl (.int .i64)), .d (.int .i64)]) : slices_BinarySearch_intint a.1 a.2.1 = evFun Tryz.prog te eqL (tb 176 c_176 (tb 175 c_175 tnil)) Tryz.f142 [.d (.sl (.int .i64)), .d (.int .i64)] [(.int .i64, []), (.bool, [])] (.s .p (.s .p (.s .p (.s (.lp ⟨[(7, .d (.int .i64)), (8, .d (.int .i64))], [], [0, 1, 6], [], [], 8⟩ ⟨[(7, .d (.int .i64))], [], [0, 1, 6], [], [], 8⟩ false .p) .p)))) a := by kernel_rfl
def c_142 : Con te := conOf te [.d (.sl (.int .i64)), .d (.int .i64)] [(.int .i64, []), (.bool, [])] false fun a => slices_BinarySearch_intint a.1 a.2.1
theorem ok_142 : Con.OK Tryz.prog te 142 c_142 ∧ bodyB Tryz.prog 142 = true := ⟨conOf_ok eqL_ok (tb_ok ok_176 (tb_ok ok_175 tnil_ok)) Tryz.func142 (by kernel_rfl) e_142, by kernel_rfl⟩
theorem e_85 (a : PA te [.d (.st 4), .d (.int .i64)]) : filesrv_lock a.1 a.2.1 = evFun Tryz.prog te eqL (tb 143 con_slices_Insert (tb 134 c_134 (tb 142 c_142 tnil))) Tryz.f85 [.d (.st 4), .d (.int .i64)] [(.st 4, [])] (.s .p (.j ⟨[], [(0, true, .cells 30 [.v (.sl (.st 0)), .v (.sl (.st 1)), .v (.int .i64), .v (.sl (.st 2)), .v (.sl (.int .i64))])], [2, 4], [2], [], 4⟩ false .p .p)) a := by kernel_rfl
def c_85 : Con te := conOf te [.d (.st 4), .d (.int .i64)] [(.st 4, [])] true fun a => filesrv_lock a.1 a.2.1
theorem ok_85 : Con.OK Tryz.prog te 85 c_85 ∧ bodyB Tryz.prog 85 = true := ⟨conOf_ok eqL_ok (tb_ok ok_con_slices_Insert (tb_ok ok_134 (tb_ok ok_142 tnil_ok))) Tryz.func85 (by kernel_rfl) e_85, by kernel_rfl⟩
theorem e_32 (a : PA te [.d (.st 4), .d .str, .d (.int .i64), .d .str, .d (.int .i64), .d (.int .i64), .d (.int .i64)]) : filesrv_Create a.1 a.2.1 a.2.2.1 a.2.2.2.1 a.2.2.2.2.1 a.2.2.2.2.2.1 a.2.2.2.2.2.2.1 = evFun Tryz.prog te eqL (tb 85 c_85 (tb 55 c_55 (tb 84 c_84 (tb 42 c_42 (tb 83 c_83 (tb 82 c_82 (tb 58 c_58 (tb 81 c_81 tnil)))))))) Tryz.f32 [.d (.st 4), .d .str, .d (.int .i64), .d .str, .d (.int .i64), .d (.int .i64), .d (.int .i64)] [(.st 4, []), (.int .i64, []), (.int .i64, [])] (.s .p (.s .p (.s .p (.j ⟨[(19, .d (.int .i64))], [], [1, 2, 3, 4, 6, 14, 17, 18], [2, 7, 8, 9, 10, 12, 23], [], 28⟩ false .p (.s .p (.s .p (.s (.df [0, 0, 0, 0, 0, 0, 0, 0, 0, 0, 1, 4, 4, 4, 4, 1, 2, 4, 4] [] 5) (.s .p (.s .p (.j ⟨[], [(12, true, .cells 30 [.v (.sl (.st 0)), .v (.sl (.st 1)), .v (.int .i64), .v (.sl (.st 2)), .v (.sl (.int .i64))])], [14, 17, 22], [2], [], 67⟩ false .p .p)))))))))) a := by kernel_rfl
def c_32 : Con te := conOf te [.d (.st 4), .d .str, .d (.int .i64), .d .str, .d (.int .i64), .d (.int .i64), .d (.int .i64)] [(.st 4, []), (.int .i64, []), (.int .i64, [])] true fun a => filesrv_Create a.1 a.2.1 a.2.2.1 a.2.2.2.1 a.2.2.2.2.1 a.2.2.2.2.2.1 a.2.2.2.2.2.2.1
theorem ok_32 : Con.OK Tryz.prog te 32 c_32 ∧ bodyB Tryz.prog 32 = true := ⟨conOf_ok eqL_ok (tb_ok ok_85 (tb_ok ok_55 (tb_ok ok_84 (tb_ok ok_42 (tb_ok ok_83 (tb_ok ok_82 (tb_ok ok_58 (tb_ok ok_81 tnil_ok)))))))) Tryz.func32 (by kernel_rfl) e_32, by kernel_rfl⟩
theorem e_33 (a : PA te []) : law13_keep = evFun Tryz.prog te eqL tnil Tryz.f33 [] [(.st 6, [])] (.p : Pl) a := by kernel_rfl
def c_33 : Con te := conOf te [] [(.st 6, [])] false fun _ => law13_keep
theorem ok_33 : Con.OK Tryz.prog te 33 c_33 ∧ bodyB Tryz.prog 33 = true := ⟨conOf_ok eqL_ok tnil_ok Tryz.func33 (by kernel_rfl) e_33, by kernel_rfl⟩
theorem e_179 (a : PA te [.d (.st 6)]) : stat_numbers a.1 = evFun Tryz.prog te eqL tnil Tryz.f179 [.d (.st 6)] [(.sl (.st 7), [some 169])] (.p : Pl) a := by kernel_rfl
def c_179 : Con te := conOf te [.d (.st 6)] [(.sl (.st 7), [some 169])] false fun a => stat_numbers a.1
theorem ok_179 : Con.OK Tryz.prog te 179 c_179 ∧ bodyB Tryz.prog 179 = true := ⟨conOf_ok eqL_ok tnil_ok Tryz.func179 (by kernel_rfl) e_179, by kernel_rfl⟩
theorem e_180 (a : PA te [.d (.int .i64), .d (.int .i64)]) : stat_within a.1 a.2.1 = evFun Tryz.prog te eqL tnil Tryz.f180 [.d (.int .i64), .d (.int .i64)] [(.bool, [])] (.p : Pl) a := by kernel_rfl
def c_180 : Con te := conOf te [.d (.int .i64), .d (.int .i64)] [(.bool, [])] false fun a => stat_within a.1 a.2.1
theorem ok_180 : Con.OK Tryz.prog te 180 c_180 ∧ bodyB Tryz.prog 180 = true := ⟨conOf_ok eqL_ok tnil_ok Tryz.func180 (by kernel_rfl) e_180, by kernel_rfl⟩
theorem e_144 (a : PA te [.d (.st 6)]) : stat_Check a.1 = evFun Tryz.prog te eqL (tb 104 c_104 (tb 180 c_180 (tb 179 c_179 tnil))) Tryz.f144 [.d (.st 6)] [(.int .i64, [])] (.s .p (.s (.s .p (.lp ⟨[(8, .d (.int .i64))], [(4, true, .row 169 (.st 7) [])], [1, 6, 7], [0], [], 8⟩ ⟨[], [], [1], [0], [], 8⟩ true .p)) .p)) a := by kernel_rfl
def c_144 : Con te := conOf te [.d (.st 6)] [(.int .i64, [])] false fun a => stat_Check a.1
theorem ok_144 : Con.OK Tryz.prog te 144 c_144 ∧ bodyB Tryz.prog 144 = true := ⟨conOf_ok eqL_ok (tb_ok ok_104 (tb_ok ok_180 (tb_ok ok_179 tnil_ok))) Tryz.func144 (by kernel_rfl) e_144, by kernel_rfl⟩
theorem e_145 (a : PA te []) : stat_None = evFun Tryz.prog te eqL tnil Tryz.f145 [] [(.st 6, [])] (.p : Pl) a := by kernel_rfl
def c_145 : Con te := conOf te [] [(.st 6, [])] false fun _ => stat_None
theorem ok_145 : Con.OK Tryz.prog te 145 c_145 ∧ bodyB Tryz.prog 145 = true := ⟨conOf_ok eqL_ok tnil_ok Tryz.func145 (by kernel_rfl) e_145, by kernel_rfl⟩
theorem e_117 (a : PA te [.d (.st 4), .d .str, .d (.st 2)]) : filesrv_above a.1 a.2.1 a.2.2.1 = evFun Tryz.prog te eqL (tb 59 c_59 (tb 54 c_54 tnil)) Tryz.f117 [.d (.st 4), .d .str, .d (.st 2)] [(.bool, [])] (.p : Pl) a := by kernel_rfl
def c_117 : Con te := conOf te [.d (.st 4), .d .str, .d (.st 2)] [(.bool, [])] false fun a => filesrv_above a.1 a.2.1 a.2.2.1
theorem ok_117 : Con.OK Tryz.prog te 117 c_117 ∧ bodyB Tryz.prog 117 = true := ⟨conOf_ok eqL_ok (tb_ok ok_59 (tb_ok ok_54 tnil_ok)) Tryz.func117 (by kernel_rfl) e_117, by kernel_rfl⟩
theorem e_146 (a : PA te [.d (.st 4), .d .str, .d (.st 2), .d .str]) : filesrv_renames a.1 a.2.1 a.2.2.1 a.2.2.2.1 = evFun Tryz.prog te eqL (tb 60 c_60 (tb 117 c_117 (tb 104 c_104 tnil))) Tryz.f146 [.d (.st 4), .d .str, .d (.st 2), .d .str] [(.int .i64, [])] (.p : Pl) a := by kernel_rfl
def c_146 : Con te := conOf te [.d (.st 4), .d .str, .d (.st 2), .d .str] [(.int .i64, [])] false fun a => filesrv_renames a.1 a.2.1 a.2.2.1 a.2.2.2.1
theorem ok_146 : Con.OK Tryz.prog te 146 c_146 ∧ bodyB Tryz.prog 146 = true := ⟨conOf_ok eqL_ok (tb_ok ok_60 (tb_ok ok_117 (tb_ok ok_104 tnil_ok))) Tryz.func146 (by kernel_rfl) e_146, by kernel_rfl⟩
theorem e_89 (a : PA te [.d (.st 2)]) : filesrv_length a.1 = evFun Tryz.prog te eqL (tb 55 c_55 tnil) Tryz.f89 [.d (.st 2)] [(.int .i64, [])] (.p : Pl) a := by kernel_rfl
def c_89 : Con te := conOf te [.d (.st 2)] [(.int .i64, [])] false fun a => filesrv_length a.1
theorem ok_89 : Con.OK Tryz.prog te 89 c_89 ∧ bodyB Tryz.prog 89 = true := ⟨conOf_ok eqL_ok (tb_ok ok_55 tnil_ok) Tryz.func89 (by kernel_rfl) e_89, by kernel_rfl⟩
theorem e_93 (a : PA te [.d (.st 4), .d (.st 2), .d (.int .i64)]) : filesrv_grows a.1 a.2.1 a.2.2.1 = evFun Tryz.prog te eqL (tb 137 c_137 tnil) Tryz.f93 [.d (.st 4), .d (.st 2), .d (.int .i64)] [(.bool, [])] (.p : Pl) a := by kernel_rfl
def c_93 : Con te := conOf te [.d (.st 4), .d (.st 2), .d (.int .i64)] [(.bool, [])] false fun a => filesrv_grows a.1 a.2.1 a.2.2.1
theorem ok_93 : Con.OK Tryz.prog te 93 c_93 ∧ bodyB Tryz.prog 93 = true := ⟨conOf_ok eqL_ok (tb_ok ok_137 tnil_ok) Tryz.func93 (by kernel_rfl) e_93, by kernel_rfl⟩
theorem e_147 (a : PA te [.d (.st 4), .d .str, .d (.st 2), .d (.int .i64)]) : filesrv_resizes a.1 a.2.1 a.2.2.1 a.2.2.2.1 = evFun Tryz.prog te eqL (tb 93 c_93 (tb 59 c_59 (tb 55 c_55 (tb 89 c_89 tnil)))) Tryz.f147 [.d (.st 4), .d .str, .d (.st 2), .d (.int .i64)] [(.int .i64, [])] (.p : Pl) a := by kernel_rfl
def c_147 : Con te := conOf te [.d (.st 4), .d .str, .d (.st 2), .d (.int .i64)] [(.int .i64, [])] false fun a => filesrv_resizes a.1 a.2.1 a.2.2.1 a.2.2.2.1
theorem ok_147 : Con.OK Tryz.prog te 147 c_147 ∧ bodyB Tryz.prog 147 = true := ⟨conOf_ok eqL_ok (tb_ok ok_93 (tb_ok ok_59 (tb_ok ok_55 (tb_ok ok_89 tnil_ok)))) Tryz.func147 (by kernel_rfl) e_147, by kernel_rfl⟩
theorem e_148 (a : PA te [.d (.sl (.st 0)), .d .str, .d .str]) : user_Leads a.1 a.2.1 a.2.2.1 = evFun Tryz.prog te eqL (tb 157 c_157 (tb 181 c_181 tnil)) Tryz.f148 [.d (.sl (.st 0)), .d .str, .d .str] [(.bool, [])] (.p : Pl) a := by kernel_rfl
def c_148 : Con te := conOf te [.d (.sl (.st 0)), .d .str, .d .str] [(.bool, [])] false fun a => user_Leads a.1 a.2.1 a.2.2.1
theorem ok_148 : Con.OK Tryz.prog te 148 c_148 ∧ bodyB Tryz.prog 148 = true := ⟨conOf_ok eqL_ok (tb_ok ok_157 (tb_ok ok_181 tnil_ok)) Tryz.func148 (by kernel_rfl) e_148, by kernel_rfl⟩
theorem e_149 (a : PA te [.d (.st 4), .d .str, .d (.st 2), .d .str]) : filesrv_regroups a.1 a.2.1 a.2.2.1 a.2.2.2.1 = evFun Tryz.prog te eqL (tb 148 c_148 (tb 157 c_157 tnil)) Tryz.f149 [.d (.st 4), .d .str, .d (.st 2), .d .str] [(.int .i64, [])] (.p : Pl) a := by kernel_rfl
def c_149 : Con te := conOf te [.d (.st 4), .d .str, .d (.st 2), .d .str] [(.int .i64, [])] false fun a => filesrv_regroups a.1 a.2.1 a.2.2.1 a.2.2.2.1
theorem ok_149 : Con.OK Tryz.prog te 149 c_149 ∧ bodyB Tryz.prog 149 = true := ⟨conOf_ok eqL_ok (tb_ok ok_148 (tb_ok ok_157 tnil_ok)) Tryz.func149 (by kernel_rfl) e_149, by kernel_rfl⟩
theorem e_87 (a : PA te [.d (.st 4), .d .str, .d (.st 2), .d (.st 6)]) : filesrv_changes a.1 a.2.1 a.2.2.1 a.2.2.2.1 = evFun Tryz.prog te eqL (tb 149 c_149 (tb 135 c_135 (tb 55 c_55 (tb 148 c_148 (tb 147 c_147 (tb 146 c_146 (tb 145 c_145 (tb 144 c_144 tnil)))))))) Tryz.f87 [.d (.st 4), .d .str, .d (.st 2), .d (.st 6)] [(.int .i64, [])] (.s .p (.s .p (.s .p (.s .p (.s .p (.s .p (.s .p (.j ⟨[], [], [1, 4, 6, 7, 13], [0, 2, 4], [], 33051⟩ true (.s .p (.s (.s .p (.s .p (.s (.dr [0, 0, 0, 0, 0, 0, 0, 0] [] false []) .p))) .p)) .p)))))))) a := by kernel_rfl
def c_87 : Con te := conOf te [.d (.st 4), .d .str, .d (.st 2), .d (.st 6)] [(.int .i64, [])] false fun a => filesrv_changes a.1 a.2.1 a.2.2.1 a.2.2.2.1
theorem ok_87 : Con.OK Tryz.prog te 87 c_87 ∧ bodyB Tryz.prog 87 = true := ⟨conOf_ok eqL_ok (tb_ok ok_149 (tb_ok ok_135 (tb_ok ok_55 (tb_ok ok_148 (tb_ok ok_147 (tb_ok ok_146 (tb_ok ok_145 (tb_ok ok_144 tnil_ok)))))))) Tryz.func87 (by kernel_rfl) e_87, by kernel_rfl⟩
theorem e_88 (a : PA te [.d (.st 3), .d (.int .i64), .d .str, .d .str, .d (.int .i64)]) : tree_Rename a.1 a.2.1 a.2.2.1 a.2.2.2.1 a.2.2.2.2.1 = evFun Tryz.prog te eqL (tb 141 c_141 (tb 111 c_111 (tb 104 c_104 (tb 139 c_139 (tb 105 c_105 tnil))))) Tryz.f88 [.d (.st 3), .d (.int .i64), .d .str, .d .str, .d (.int .i64)] [(.st 3, [none, some 60]), (.int .i64, [])] (.s .p (.s .p (.s (.s .p (.s .p (.s .p (.s .p (.s .p (.s .p (.s .p (.s .p (.s (.dr [0, 0, 0, 0, 0, 0, 0, 0, 0, 0, 0] [] false []) .p))))))))) (.s .p (.s .p (.s (.dr [0, 0, 0, 0, 0, 0, 0, 0, 0, 0, 0, 2] [] false []) .p)))))) a := by kernel_rfl
def c_88 : Con te := conOf te [.d (.st 3), .d (.int .i64), .d .str, .d .str, .d (.int .i64)] [(.st 3, [none, some 60]), (.int .i64, [])] false fun a => tree_Rename a.1 a.2.1 a.2.2.1 a.2.2.2.1 a.2.2.2.2.1
theorem ok_88 : Con.OK Tryz.prog te 88 c_88 ∧ bodyB Tryz.prog 88 = true := ⟨conOf_ok eqL_ok (tb_ok ok_141 (tb_ok ok_111 (tb_ok ok_104 (tb_ok ok_139 (tb_ok ok_105 tnil_ok))))) Tryz.func88 (by kernel_rfl) e_88, by kernel_rfl⟩
theorem e_112 (a : PA te [.d (.st 3), .d (.int .i64)]) : tree_file a.1 a.2.1 = evFun Tryz.prog te eqL (tb 103 c_103 (tb 105 c_105 tnil)) Tryz.f112 [.d (.st 3), .d (.int .i64)] [(.int .i64, []), (.int .i64, [])] (.p : Pl) a := by kernel_rfl
def c_112 : Con te := conOf te [.d (.st 3), .d (.int .i64)] [(.int .i64, []), (.int .i64, [])] false fun a => tree_file a.1 a.2.1
theorem ok_112 : Con.OK Tryz.prog te 112 c_112 ∧ bodyB Tryz.prog 112 = true := ⟨conOf_ok eqL_ok (tb_ok ok_103 (tb_ok ok_105 tnil_ok)) Tryz.func112 (by kernel_rfl) e_112, by kernel_rfl⟩
theorem e_150 (a : PA te [.d .str, .d (.int .i64)]) : tree_fit a.1 a.2.1 = evFun Tryz.prog te eqL (tb 182 con_strings_Repeat tnil) Tryz.f150 [.d .str, .d (.int .i64)] [(.str, [])] (.p : Pl) a := by kernel_rfl
def c_150 : Con te := conOf te [.d .str, .d (.int .i64)] [(.str, [])] false fun a => tree_fit a.1 a.2.1
theorem ok_150 : Con.OK Tryz.prog te 150 c_150 ∧ bodyB Tryz.prog 150 = true := ⟨conOf_ok eqL_ok (tb_ok ok_con_strings_Repeat tnil_ok) Tryz.func150 (by kernel_rfl) e_150, by kernel_rfl⟩
theorem e_90 (a : PA te [.d (.st 3), .d (.int .i64), .d (.int .i64), .d .str, .d (.int .i64)]) : tree_Resize a.1 a.2.1 a.2.2.1 a.2.2.2.1 a.2.2.2.2.1 = evFun Tryz.prog te eqL (tb 141 c_141 (tb 150 c_150 (tb 139 c_139 (tb 112 c_112 tnil)))) Tryz.f90 [.d (.st 3), .d (.int .i64), .d (.int .i64), .d .str, .d (.int .i64)] [(.st 3, [none, some 60]), (.int .i64, [])] (.s .p (.s .p (.s .p (.s .p (.s (.dr [0, 0, 0, 0, 0, 0, 0, 0, 0, 0, 0, 0, 0, 2] [] false []) .p))))) a := by kernel_rfl
def c_90 : Con te := conOf te [.d (.st 3), .d (.int .i64), .d (.int .i64), .d .str, .d (.int .i64)] [(.st 3, [none, some 60]), (.int .i64, [])] false fun a => tree_Resize a.1 a.2.1 a.2.2.1 a.2.2.2.1 a.2.2.2.2.1
theorem ok_90 : Con.OK Tryz.prog te 90 c_90 ∧ bodyB Tryz.prog 90 = true := ⟨conOf_ok eqL_ok (tb_ok ok_141 (tb_ok ok_150 (tb_ok ok_139 (tb_ok ok_112 tnil_ok)))) Tryz.func90 (by kernel_rfl) e_90, by kernel_rfl⟩
theorem e_91 (a : PA te [.d (.st 3), .d (.int .i64), .d (.int .i64), .d .str, .d (.int .i64)]) : tree_Attrs a.1 a.2.1 a.2.2.1 a.2.2.2.1 a.2.2.2.2.1 = evFun Tryz.prog te eqL (tb 96 c_96 (tb 97 c_97 (tb 103 c_103 (tb 140 c_140 (tb 139 c_139 (tb 105 c_105 tnil)))))) Tryz.f91 [.d (.st 3), .d (.int .i64), .d (.int .i64), .d .str, .d (.int .i64)] [(.st 3, [none, some 60]), (.int .i64, [])] (.s .p (.s .p (.s (.s .p (.s .p (.s (.dr [0, 0, 0, 0, 0, 0, 0, 0, 0, 0, 0, 0, 0, 0, 0, 0, 0, 0, 0, 0] [] false []) .p))) (.s .p (.s .p (.j ⟨[], [(21021, true, .row 60 (.st 2) [(21030, 14)])], [3, 4, 10, 13, 14], [2, 21023], [21030], 21033⟩ false .p (.j ⟨[], [(21021, true, .row 60 (.st 2) [(21030, 14)])], [4, 10, 13, 14], [2, 21023], [21030], 21033⟩ false .p (.j ⟨[], [(21021, true, .row 60 (.st 2) [])], [10, 13], [2, 21023], [], 21033⟩ false .p .p)))))))) a := by kernel_rfl
def c_91 : Con te := conOf te [.d (.st 3), .d (.int .i64), .d (.int .i64), .d .str, .d (.int .i64)] [(.st 3, [none, some 60]), (.int .i64, [])] false fun a => tree_Attrs a.1 a.2.1 a.2.2.1 a.2.2.2.1 a.2.2.2.2.1
theorem ok_91 : Con.OK Tryz.prog te 91 c_91 ∧ bodyB Tryz.prog 91 = true := ⟨conOf_ok eqL_ok (tb_ok ok_96 (tb_ok ok_97 (tb_ok ok_103 (tb_ok ok_140 (tb_ok ok_139 (tb_ok ok_105 tnil_ok)))))) Tryz.func91 (by kernel_rfl) e_91, by kernel_rfl⟩
theorem e_92 (a : PA te [.d (.st 4), .d (.int .i64)]) : filesrv_unlock a.1 a.2.1 = evFun Tryz.prog te eqL (tb 151 con_slices_Delete (tb 134 c_134 (tb 142 c_142 tnil))) Tryz.f92 [.d (.st 4), .d (.int .i64)] [(.st 4, [])] (.s .p (.j ⟨[], [(0, true, .cells 30 [.v (.sl (.st 0)), .v (.sl (.st 1)), .v (.int .i64), .v (.sl (.st 2)), .v (.sl (.int .i64))])], [2, 4], [2], [], 4⟩ false .p .p)) a := by kernel_rfl
def c_92 : Con te := conOf te [.d (.st 4), .d (.int .i64)] [(.st 4, [])] true fun a => filesrv_unlock a.1 a.2.1
theorem ok_92 : Con.OK Tryz.prog te 92 c_92 ∧ bodyB Tryz.prog 92 = true := ⟨conOf_ok eqL_ok (tb_ok ok_con_slices_Delete (tb_ok ok_134 (tb_ok ok_142 tnil_ok))) Tryz.func92 (by kernel_rfl) e_92, by kernel_rfl⟩
theorem e_34 (a : PA te [.d (.st 4), .d .str, .d (.int .i64), .d (.st 6), .d (.int .i64)]) : filesrv_Wstat a.1 a.2.1 a.2.2.1 a.2.2.2.1 a.2.2.2.2.1 = evFun Tryz.prog te eqL (tb 92 c_92 (tb 55 c_55 (tb 91 c_91 (tb 90 c_90 (tb 89 c_89 (tb 88 c_88 (tb 42 c_42 (tb 87 c_87 (tb 86 c_86 (tb 81 c_81 tnil)))))))))) Tryz.f34 [.d (.st 4), .d .str, .d (.int .i64), .d (.st 6), .d (.int .i64)] [(.st 4, []), (.int .i64, [])] (.s .p (.s .p (.s .p (.j ⟨[(14, .d (.int .i64))], [], [1, 2, 4, 8, 10, 12, 13], [2, 4, 8, 9, 10, 11, 13, 24], [], 29⟩ false .p (.s .p (.j ⟨[], [(13, true, .cells 30 [.own 8, .own 9, .v (.int .i64), .own 31, .own 11]), (8, true, .row 68 (.st 0) []), (9, true, .row 70 (.st 1) []), (31, false, .row 60 (.st 2) []), (11, true, .row 3 (.int .i64) [])], [1, 2, 4, 8, 10, 12, 13], [2, 4, 24], [], 32⟩ false (.s .p (.s (.dr [0, 0, 0, 0, 0, 0, 0, 0, 1, 4, 4, 4, 4, 2] [] false []) .p)) (.j ⟨[], [(13, true, .cells 30 [.own 8, .own 9, .v (.int .i64), .own 32, .own 11]), (8, true, .row 68 (.st 0) []), (9, true, .row 70 (.st 1) []), (32, false, .row 60 (.st 2) []), (11, true, .row 3 (.int .i64) [])], [2, 8, 10, 12, 13], [2, 4, 24], [], 33⟩ false (.s (.dr [0, 0, 0, 0, 0, 0, 0, 0, 0, 0] [] false []) (.s (.dr [0, 0, 0, 0, 0, 0, 0, 0, 1, 4, 4, 4, 4, 2] [] false []) .p)) (.s .p (.j ⟨[(15, .d .str)], [], [2, 8, 10, 12], [2, 4, 8, 9, 11, 13, 32], [], 36⟩ false .p (.j ⟨[], [(13, true, .cells 30 [.own 8, .own 9, .v (.int .i64), .own 36, .own 11]), (8, true, .row 68 (.st 0) []), (9, true, .row 70 (.st 1) []), (36, false, .row 60 (.st 2) []), (11, true, .row 3 (.int .i64) [])], [2, 8, 10, 12], [2, 4], [], 37⟩ false .p (.j ⟨[], [(13, true, .cells 30 [.v (.sl (.st 0)), .v (.sl (.st 1)), .v (.int .i64), .v (.sl (.st 2)), .v (.sl (.int .i64))])], [10, 12], [4], [], 37⟩ false .p .p))))))))))) a := by kernel_rfl
def c_34 : Con te := conOf te [.d (.st 4), .d .str, .d (.int .i64), .d (.st 6), .d (.int .i64)] [(.st 4, []), (.int .i64, [])] true fun a => filesrv_Wstat a.1 a.2.1 a.2.2.1 a.2.2.2.1 a.2.2.2.2.1
theorem ok_34 : Con.OK Tryz.prog te 34 c_34 ∧ bodyB Tryz.prog 34 = true := ⟨conOf_ok eqL_ok (tb_ok ok_92 (tb_ok ok_55 (tb_ok ok_91 (tb_ok ok_90 (tb_ok ok_89 (tb_ok ok_88 (tb_ok ok_42 (tb_ok ok_87 (tb_ok ok_86 (tb_ok ok_81 tnil_ok)))))))))) Tryz.func34 (by kernel_rfl) e_34, by kernel_rfl⟩
theorem e_152 (a : PA te [.d (.int .i64)]) : tree_appends a.1 = evFun Tryz.prog te eqL tnil Tryz.f152 [.d (.int .i64)] [(.bool, [])] (.p : Pl) a := by kernel_rfl
def c_152 : Con te := conOf te [.d (.int .i64)] [(.bool, [])] false fun a => tree_appends a.1
theorem ok_152 : Con.OK Tryz.prog te 152 c_152 ∧ bodyB Tryz.prog 152 = true := ⟨conOf_ok eqL_ok tnil_ok Tryz.func152 (by kernel_rfl) e_152, by kernel_rfl⟩
theorem e_94 (a : PA te [.d (.st 3), .d (.int .i64), .d (.int .i64), .d .str, .d .str, .d (.int .i64)]) : tree_Write a.1 a.2.1 a.2.2.1 a.2.2.2.1 a.2.2.2.2.1 a.2.2.2.2.2.1 = evFun Tryz.prog te eqL (tb 141 c_141 (tb 150 c_150 (tb 152 c_152 (tb 139 c_139 (tb 112 c_112 tnil))))) Tryz.f94 [.d (.st 3), .d (.int .i64), .d (.int .i64), .d .str, .d .str, .d (.int .i64)] [(.st 3, [none, some 60]), (.int .i64, []), (.int .i64, [])] (.s .p (.s .p (.s .p (.s .p (.s .p (.s .p (.j ⟨[(2, .d (.int .i64))], [], [3, 4, 5, 6, 12, 15, 17], [0, 2], [], 27⟩ false .p (.s .p (.s .p (.s (.dr [0, 0, 0, 0, 0, 0, 0, 0, 0, 0, 0, 0, 0, 0, 0, 0, 0, 0, 0, 0, 2] [] false []) .p)))))))))) a := by kernel_rfl
def c_94 : Con te := conOf te [.d (.st 3), .d (.int .i64), .d (.int .i64), .d .str, .d .str, .d (.int .i64)] [(.st 3, [none, some 60]), (.int .i64, []), (.int .i64, [])] false fun a => tree_Write a.1 a.2.1 a.2.2.1 a.2.2.2.1 a.2.2.2.2.1 a.2.2.2.2.2.1
theorem ok_94 : Con.OK Tryz.prog te 94 c_94 ∧ bodyB Tryz.prog 94 = true := ⟨conOf_ok eqL_ok (tb_ok ok_141 (tb_ok ok_150 (tb_ok ok_152 (tb_ok ok_139 (tb_ok ok_112 tnil_ok))))) Tryz.func94 (by kernel_rfl) e_94, by kernel_rfl⟩
theorem e_35 (a : PA te [.d (.st 4), .d .str, .d (.int .i64), .d (.int .i64), .d .str, .d (.int .i64)]) : filesrv_Write a.1 a.2.1 a.2.2.1 a.2.2.2.1 a.2.2.2.2.1 a.2.2.2.2.2.1 = evFun Tryz.prog te eqL (tb 94 c_94 (tb 42 c_42 (tb 93 c_93 (tb 55 c_55 (tb 86 c_86 (tb 81 c_81 tnil)))))) Tryz.f35 [.d (.st 4), .d .str, .d (.int .i64), .d (.int .i64), .d .str, .d (.int .i64)] [(.st 4, [some 68, some 70, none, some 60, some 3]), (.int .i64, []), (.int .i64, [])] (.s .p (.s .p (.s .p (.s .p (.j ⟨[(3, .d (.int .i64))], [], [1, 2, 4, 5, 6, 12, 15, 16], [0, 2, 7, 8, 9, 10, 12, 23], [], 41⟩ false .p (.s .p (.s .p (.s (.df [0, 0, 0, 0, 0, 0, 0, 0, 1, 4, 4, 4, 4, 1, 2, 4, 4] [] 5) .p)))))))) a := by kernel_rfl
def c_35 : Con te := conOf te [.d (.st 4), .d .str, .d (.int .i64), .d (.int .i64), .d .str, .d (.int .i64)] [(.st 4, [some 68, some 70, none, some 60, some 3]), (.int .i64, []), (.int .i64, [])] true fun a => filesrv_Write a.1 a.2.1 a.2.2.1 a.2.2.2.1 a.2.2.2.2.1 a.2.2.2.2.2.1
theorem ok_35 : Con.OK Tryz.prog te 35 c_35 ∧ bodyB Tryz.prog 35 = true := ⟨conOf_ok eqL_ok (tb_ok ok_94 (tb_ok ok_42 (tb_ok ok_93 (tb_ok ok_55 (tb_ok ok_86 (tb_ok ok_81 tnil_ok)))))) Tryz.func35 (by kernel_rfl) e_35, by kernel_rfl⟩
theorem e_63 (a : PA te [.d (.st 3), .d (.int .i64), .d (.int .i64), .d (.int .i64)]) : tree_Read a.1 a.2.1 a.2.2.1 a.2.2.2.1 = evFun Tryz.prog te eqL (tb 112 c_112 tnil) Tryz.f63 [.d (.st 3), .d (.int .i64), .d (.int .i64), .d (.int .i64)] [(.str, []), (.int .i64, [])] (.p : Pl) a := by kernel_rfl
def c_63 : Con te := conOf te [.d (.st 3), .d (.int .i64), .d (.int .i64), .d (.int .i64)] [(.str, []), (.int .i64, [])] false fun a => tree_Read a.1 a.2.1 a.2.2.1 a.2.2.2.1
theorem ok_63 : Con.OK Tryz.prog te 63 c_63 ∧ bodyB Tryz.prog 63 = true := ⟨conOf_ok eqL_ok (tb_ok ok_112 tnil_ok) Tryz.func63 (by kernel_rfl) e_63, by kernel_rfl⟩
theorem e_19 (a : PA te [.d (.st 4), .d (.int .i64), .d (.int .i64), .d (.int .i64)]) : filesrv_Read a.1 a.2.1 a.2.2.1 a.2.2.2.1 = evFun Tryz.prog te eqL (tb 63 c_63 tnil) Tryz.f19 [.d (.st 4), .d (.int .i64), .d (.int .i64), .d (.int .i64)] [(.str, []), (.int .i64, [])] (.p : Pl) a := by kernel_rfl
def c_19 : Con te := conOf te [.d (.st 4), .d (.int .i64), .d (.int .i64), .d (.int .i64)] [(.str, []), (.int .i64, [])] false fun a => filesrv_Read a.1 a.2.1 a.2.2.1 a.2.2.2.1
theorem ok_19 : Con.OK Tryz.prog te 19 c_19 ∧ bodyB Tryz.prog 19 = true := ⟨conOf_ok eqL_ok (tb_ok ok_63 tnil_ok) Tryz.func19 (by kernel_rfl) e_19, by kernel_rfl⟩
theorem e_11 (a : PA te []) : law13_awake = evFun Tryz.prog te eqL (tb 19 c_19 (tb 35 c_35 (tb 34 c_34 (tb 33 c_33 (tb 32 c_32 (tb 12 c_12 tnil)))))) Tryz.f11 [] [(.bool, [])] (.p : Pl) a := by kernel_rfl
def c_11 : Con te := conOf te [] [(.bool, [])] false fun _ => law13_awake
theorem ok_11 : Con.OK Tryz.prog te 11 c_11 ∧ bodyB Tryz.prog 11 = true := ⟨conOf_ok eqL_ok (tb_ok ok_19 (tb_ok ok_35 (tb_ok ok_34 (tb_ok ok_33 (tb_ok ok_32 (tb_ok ok_12 tnil_ok)))))) Tryz.func11 (by kernel_rfl) e_11, by kernel_rfl⟩
theorem e_46 (a : PA te [.d .str]) : ref05_Valid a.1 = evFun Tryz.prog te eqL tnil Tryz.f46 [.d .str] [(.bool, [])] (.s .p (.s .p (.s (.s .p (.lp ⟨[(3, .d (.int .i64))], [], [0], [], [], 4006⟩ ⟨[], [], [], [], [], 4006⟩ true .p)) .p))) a := by kernel_rfl
def c_46 : Con te := conOf te [.d .str] [(.bool, [])] false fun a => ref05_Valid a.1
theorem ok_46 : Con.OK Tryz.prog te 46 c_46 ∧ bodyB Tryz.prog 46 = true := ⟨conOf_ok eqL_ok tnil_ok Tryz.func46 (by kernel_rfl) e_46, by kernel_rfl⟩
theorem e_153 (a : PA te [.d (.sl (.st 0)), .d .str]) : ref05_at a.1 a.2.1 = evFun Tryz.prog te eqL tnil Tryz.f153 [.d (.sl (.st 0)), .d .str] [(.int .i64, [])] (.s .p (.s (.s .p (.lp ⟨[(8, .d (.int .i64))], [], [0, 1, 7], [], [], 4⟩ ⟨[], [], [], [], [], 4⟩ true .p)) .p)) a := by kernel_rfl
def c_153 : Con te := conOf te [.d (.sl (.st 0)), .d .str] [(.int .i64, [])] false fun a => ref05_at a.1 a.2.1
theorem ok_153 : Con.OK Tryz.prog te 153 c_153 ∧ bodyB Tryz.prog 153 = true := ⟨conOf_ok eqL_ok tnil_ok Tryz.func153 (by kernel_rfl) e_153, by kernel_rfl⟩
theorem e_98 (a : PA te [.d (.sl (.st 0)), .d (.int .i64)]) : ref05_checkOne a.1 a.2.1 = evFun Tryz.prog te eqL (tb 153 c_153 (tb 46 c_46 tnil)) Tryz.f98 [.d (.sl (.st 0)), .d (.int .i64)] [(.int .i64, [])] (.s .p (.s .p (.s .p (.s (.s .p (.lp ⟨[(37, .d (.int .i64))], [], [0, 5, 36], [5], [], 6030⟩ ⟨[], [], [], [], [], 6030⟩ true (.s .p (.s .p (.s (.s .p (.s (.dr [0, 0, 0, 0, 0, 0, 0, 0, 0, 0, 0, 0, 0, 0, 0, 0, 0, 0, 0, 0, 0, 0, 0, 0, 0, 0] [] false []) .p)) .p))))) .p)))) a := by kernel_rfl
def c_98 : Con te := conOf te [.d (.sl (.st 0)), .d (.int .i64)] [(.int .i64, [])] false fun a => ref05_checkOne a.1 a.2.1
theorem ok_98 : Con.OK Tryz.prog te 98 c_98 ∧ bodyB Tryz.prog 98 = true := ⟨conOf_ok eqL_ok (tb_ok ok_153 (tb_ok ok_46 tnil_ok)) Tryz.func98 (by kernel_rfl) e_98, by kernel_rfl⟩
theorem e_44 (a : PA te [.d (.sl (.st 0))]) : ref05_Check a.1 = evFun Tryz.prog te eqL (tb 98 c_98 tnil) Tryz.f44 [.d (.sl (.st 0))] [(.int .i64, [])] (.s .p (.s .p (.s (.s .p (.lp ⟨[(10, .d (.int .i64))], [], [0, 9], [], [], 7⟩ ⟨[], [], [], [], [], 7⟩ true .p)) .p))) a := by kernel_rfl
def c_44 : Con te := conOf te [.d (.sl (.st 0))] [(.int .i64, [])] false fun a => ref05_Check a.1
theorem ok_44 : Con.OK Tryz.prog te 44 c_44 ∧ bodyB Tryz.prog 44 = true := ⟨conOf_ok eqL_ok (tb_ok ok_98 tnil_ok) Tryz.func44 (by kernel_rfl) e_44, by kernel_rfl⟩
theorem e_45 (a : PA te [.d (.sl (.st 1))]) : ref12_Check a.1 = evFun Tryz.prog te eqL (tb 46 c_46 tnil) Tryz.f45 [.d (.sl (.st 1))] [(.int .i64, [])] (.s .p (.s .p (.s (.s .p (.lp ⟨[(3, .d (.int .i64))], [], [0], [], [], 5⟩ ⟨[], [], [], [], [], 5⟩ true (.s .p (.s (.s .p (.s .p (.s (.s (.dr [0, 0, 0, 0, 0, 0, 0, 0, 0, 0, 0, 0, 0] [] false []) .p) .p))) .p)))) .p))) a := by kernel_rfl
def c_45 : Con te := conOf te [.d (.sl (.st 1))] [(.int .i64, [])] false fun a => ref12_Check a.1
theorem ok_45 : Con.OK Tryz.prog te 45 c_45 ∧ bodyB Tryz.prog 45 = true := ⟨conOf_ok eqL_ok (tb_ok ok_46 tnil_ok) Tryz.func45 (by kernel_rfl) e_45, by kernel_rfl⟩
theorem e_48 (a : PA te [.d (.int .i64)]) : ref13_at a.1 = evFun Tryz.prog te eqL tnil Tryz.f48 [.d (.int .i64)] [(.int .i64, [])] (.p : Pl) a := by kernel_rfl
def c_48 : Con te := conOf te [.d (.int .i64)] [(.int .i64, [])] false fun a => ref13_at a.1
theorem ok_48 : Con.OK Tryz.prog te 48 c_48 ∧ bodyB Tryz.prog 48 = true := ⟨conOf_ok eqL_ok tnil_ok Tryz.func48 (by kernel_rfl) e_48, by kernel_rfl⟩
theorem e_99 (a : PA te [.d .str]) : ref10_Short a.1 = evFun Tryz.prog te eqL tnil Tryz.f99 [.d .str] [(.str, [])] (.p : Pl) a := by kernel_rfl
def c_99 : Con te := conOf te [.d .str] [(.str, [])] false fun a => ref10_Short a.1
theorem ok_99 : Con.OK Tryz.prog te 99 c_99 ∧ bodyB Tryz.prog 99 = true := ⟨conOf_ok eqL_ok tnil_ok Tryz.func99 (by kernel_rfl) e_99, by kernel_rfl⟩
theorem e_100 (a : PA te [.d (.int .i64)]) : ref10_Time a.1 = evFun Tryz.prog te eqL tnil Tryz.f100 [.d (.int .i64)] [(.int .i64, [])] (.p : Pl) a := by kernel_rfl
def c_100 : Con te := conOf te [.d (.int .i64)] [(.int .i64, [])] false fun a => ref10_Time a.1
theorem ok_100 : Con.OK Tryz.prog te 100 c_100 ∧ bodyB Tryz.prog 100 = true := ⟨conOf_ok eqL_ok tnil_ok Tryz.func100 (by kernel_rfl) e_100, by kernel_rfl⟩
theorem e_47 (a : PA te [.d .str, .d (.int .i64), .d (.int .i64)]) : ref10_New a.1 a.2.1 a.2.2.1 = evFun Tryz.prog te eqL (tb 100 c_100 (tb 99 c_99 tnil)) Tryz.f47 [.d .str, .d (.int .i64), .d (.int .i64)] [(.st 3, [none, some 60])] (.p : Pl) a := by kernel_rfl
def c_47 : Con te := conOf te [.d .str, .d (.int .i64), .d (.int .i64)] [(.st 3, [none, some 60])] false fun a => ref10_New a.1 a.2.1 a.2.2.1
theorem ok_47 : Con.OK Tryz.prog te 47 c_47 ∧ bodyB Tryz.prog 47 = true := ⟨conOf_ok eqL_ok (tb_ok ok_100 (tb_ok ok_99 tnil_ok)) Tryz.func47 (by kernel_rfl) e_47, by kernel_rfl⟩
end
end Go.Proofs.YtebcipkdnlfboaaGreat
namespace Go.Proofs.YtebcipkdnlfboaaGreat
open Go.Rt Go.RowKit
noncomputable section
theorem e_13 (a : PA te [.d (.sl (.st 0)), .d (.sl (.st 1)), .d .str, .d (.int .i64)]) : ref13_New a.1 a.2.1 a.2.2.1 a.2.2.2.1 = evFun Tryz.prog te eqL (tb 47 c_47 (tb 48 c_48 (tb 46 c_46 (tb 45 c_45 (tb 44 c_44 tnil))))) Tryz.f13 [.d (.sl (.st 0)), .d (.sl (.st 1)), .d .str, .d (.int .i64)] [(.st 4, [none, none, none, some 60]), (.int .i64, [])] (.p : Pl) a := by kernel_rfl
def c_13 : Con te := conOf te [.d (.sl (.st 0)), .d (.sl (.st 1)), .d .str, .d (.int .i64)] [(.st 4, [none, none, none, some 60]), (.int .i64, [])] true fun a => ref13_New a.1 a.2.1 a.2.2.1 a.2.2.2.1
theorem ok_13 : Con.OK Tryz.prog te 13 c_13 ∧ bodyB Tryz.prog 13 = true := ⟨conOf_ok eqL_ok (tb_ok ok_47 (tb_ok ok_48 (tb_ok ok_46 (tb_ok ok_45 (tb_ok ok_44 tnil_ok))))) Tryz.func13 (by kernel_rfl) e_13, by kernel_rfl⟩
theorem e_101 (a : PA te [.d (.sl .str), .d (.sl .str)]) : ref13_SameTexts a.1 a.2.1 = evFun Tryz.prog te eqL tnil Tryz.f101 [.d (.sl .str), .d (.sl .str)] [(.bool, [])] (.s .p (.s .p (.s (.s .p (.lp ⟨[(13, .d (.int .i64))], [], [0, 1, 12], [], [], 9⟩ ⟨[], [], [], [], [], 9⟩ true (.s .p (.s .p (.s (.s .p (.s (.dr [0, 0, 0, 0, 0, 0, 0, 0, 0] [] false []) .p)) .p))))) .p))) a := by kernel_rfl
def c_101 : Con te := conOf te [.d (.sl .str), .d (.sl .str)] [(.bool, [])] false fun a => ref13_SameTexts a.1 a.2.1
theorem ok_101 : Con.OK Tryz.prog te 101 c_101 ∧ bodyB Tryz.prog 101 = true := ⟨conOf_ok eqL_ok tnil_ok Tryz.func101 (by kernel_rfl) e_101, by kernel_rfl⟩
theorem e_49 (a : PA te [.d (.sl (.st 0)), .d (.sl (.st 0))]) : ref13_SameUsers a.1 a.2.1 = evFun Tryz.prog te eqL (tb 101 c_101 tnil) Tryz.f49 [.d (.sl (.st 0)), .d (.sl (.st 0))] [(.bool, [])] (.s .p (.s .p (.s (.s .p (.lp ⟨[(13, .d (.int .i64))], [], [0, 1, 12], [], [], 9⟩ ⟨[], [], [], [], [], 9⟩ true (.s .p (.s .p (.s (.s .p (.s (.dr [0, 0, 0, 0, 0, 0, 0, 0, 0, 0, 0, 0, 0, 0, 0, 0, 0, 0, 0, 0, 0, 0, 0, 0, 0, 0, 0, 0, 0, 0, 0, 0, 0, 0, 0, 0, 0, 0] [] false []) .p)) .p))))) .p))) a := by kernel_rfl
def c_49 : Con te := conOf te [.d (.sl (.st 0)), .d (.sl (.st 0))] [(.bool, [])] false fun a => ref13_SameUsers a.1 a.2.1
theorem ok_49 : Con.OK Tryz.prog te 49 c_49 ∧ bodyB Tryz.prog 49 = true := ⟨conOf_ok eqL_ok (tb_ok ok_101 tnil_ok) Tryz.func49 (by kernel_rfl) e_49, by kernel_rfl⟩
theorem e_50 (a : PA te [.d (.sl (.st 1)), .d (.sl (.st 1))]) : ref13_SameQuotas a.1 a.2.1 = evFun Tryz.prog te eqL tnil Tryz.f50 [.d (.sl (.st 1)), .d (.sl (.st 1))] [(.bool, [])] (.s .p (.s .p (.s (.s .p (.lp ⟨[(13, .d (.int .i64))], [], [0, 1, 12], [], [], 9⟩ ⟨[], [], [], [], [], 9⟩ true (.s .p (.s .p (.s (.s .p (.s (.dr [0, 0, 0, 0, 0, 0, 0, 0, 0] [] false []) .p)) .p))))) .p))) a := by kernel_rfl
def c_50 : Con te := conOf te [.d (.sl (.st 1)), .d (.sl (.st 1))] [(.bool, [])] false fun a => ref13_SameQuotas a.1 a.2.1
theorem ok_50 : Con.OK Tryz.prog te 50 c_50 ∧ bodyB Tryz.prog 50 = true := ⟨conOf_ok eqL_ok tnil_ok Tryz.func50 (by kernel_rfl) e_50, by kernel_rfl⟩
theorem e_51 (a : PA te [.d (.st 3), .d (.st 3)]) : ref13_SameTree a.1 a.2.1 = evFun Tryz.prog te eqL tnil Tryz.f51 [.d (.st 3), .d (.st 3)] [(.bool, [])] (.s .p (.s .p (.s (.s .p (.lp ⟨[(23, .d (.int .i64))], [], [2, 3, 22], [0, 2], [], 8015⟩ ⟨[], [], [], [], [], 8015⟩ true (.s .p (.s .p (.s (.s .p (.s (.dr [0, 0, 0, 0, 0, 0, 0, 0, 0, 0, 0] [] false []) .p)) .p))))) .p))) a := by kernel_rfl
def c_51 : Con te := conOf te [.d (.st 3), .d (.st 3)] [(.bool, [])] false fun a => ref13_SameTree a.1 a.2.1
theorem ok_51 : Con.OK Tryz.prog te 51 c_51 ∧ bodyB Tryz.prog 51 = true := ⟨conOf_ok eqL_ok tnil_ok Tryz.func51 (by kernel_rfl) e_51, by kernel_rfl⟩
theorem e_52 (a : PA te [.d (.sl (.int .i64)), .d (.sl (.int .i64))]) : ref13_SameInts a.1 a.2.1 = evFun Tryz.prog te eqL tnil Tryz.f52 [.d (.sl (.int .i64)), .d (.sl (.int .i64))] [(.bool, [])] (.s .p (.s .p (.s (.s .p (.lp ⟨[(13, .d (.int .i64))], [], [0, 1, 12], [], [], 9⟩ ⟨[], [], [], [], [], 9⟩ true (.s .p (.s .p (.s (.s .p (.s (.dr [0, 0, 0, 0, 0, 0, 0, 0, 0] [] false []) .p)) .p))))) .p))) a := by kernel_rfl
def c_52 : Con te := conOf te [.d (.sl (.int .i64)), .d (.sl (.int .i64))] [(.bool, [])] false fun a => ref13_SameInts a.1 a.2.1
theorem ok_52 : Con.OK Tryz.prog te 52 c_52 ∧ bodyB Tryz.prog 52 = true := ⟨conOf_ok eqL_ok tnil_ok Tryz.func52 (by kernel_rfl) e_52, by kernel_rfl⟩
theorem e_14 (a : PA te [.d (.st 4), .d (.st 4)]) : ref13_Same a.1 a.2.1 = evFun Tryz.prog te eqL (tb 52 c_52 (tb 51 c_51 (tb 50 c_50 (tb 49 c_49 tnil)))) Tryz.f14 [.d (.st 4), .d (.st 4)] [(.bool, [])] (.p : Pl) a := by kernel_rfl
def c_14 : Con te := conOf te [.d (.st 4), .d (.st 4)] [(.bool, [])] false fun a => ref13_Same a.1 a.2.1
theorem ok_14 : Con.OK Tryz.prog te 14 c_14 ∧ bodyB Tryz.prog 14 = true := ⟨conOf_ok eqL_ok (tb_ok ok_52 (tb_ok ok_51 (tb_ok ok_50 (tb_ok ok_49 tnil_ok)))) Tryz.func14 (by kernel_rfl) e_14, by kernel_rfl⟩
theorem e_3 (a : PA te [.d (.sl (.st 0)), .d (.sl (.st 1)), .d .str, .d (.int .i64)]) : law13_FilesrvNews a.1 a.2.1 a.2.2.1 a.2.2.2.1 = evFun Tryz.prog te eqL (tb 14 c_14 (tb 13 c_13 (tb 12 c_12 (tb 11 c_11 (tb 10 c_10 tnil))))) Tryz.f3 [.d (.sl (.st 0)), .d (.sl (.st 1)), .d .str, .d (.int .i64)] [(.bool, [])] (.p : Pl) a := by kernel_rfl
def c_3 : Con te := conOf te [.d (.sl (.st 0)), .d (.sl (.st 1)), .d .str, .d (.int .i64)] [(.bool, [])] false fun a => law13_FilesrvNews a.1 a.2.1 a.2.2.1 a.2.2.2.1
theorem ok_3 : Con.OK Tryz.prog te 3 c_3 ∧ bodyB Tryz.prog 3 = true := ⟨conOf_ok eqL_ok (tb_ok ok_14 (tb_ok ok_13 (tb_ok ok_12 (tb_ok ok_11 (tb_ok ok_10 tnil_ok))))) Tryz.func3 (by kernel_rfl) e_3, by kernel_rfl⟩
theorem e_102 (a : PA te [.d (.st 2)]) : tree_sound a.1 = evFun Tryz.prog te eqL (tb 103 c_103 (tb 97 c_97 (tb 140 c_140 tnil))) Tryz.f102 [.d (.st 2)] [(.bool, [])] (.s .p (.s (.s (.dr [0, 0, 0, 0, 0, 0, 0, 0, 0, 0, 0, 0, 0, 0, 0, 0, 0, 0, 0, 0, 0, 0, 0, 0, 0, 0, 0, 0, 0, 0] [] false []) .p) .p)) a := by kernel_rfl
def c_102 : Con te := conOf te [.d (.st 2)] [(.bool, [])] false fun a => tree_sound a.1
theorem ok_102 : Con.OK Tryz.prog te 102 c_102 ∧ bodyB Tryz.prog 102 = true := ⟨conOf_ok eqL_ok (tb_ok ok_103 (tb_ok ok_97 (tb_ok ok_140 tnil_ok))) Tryz.func102 (by kernel_rfl) e_102, by kernel_rfl⟩
theorem e_53 (a : PA te [.d (.st 3)]) : tree_Right a.1 = evFun Tryz.prog te eqL (tb 104 c_104 (tb 103 c_103 (tb 102 c_102 tnil))) Tryz.f53 [.d (.st 3)] [(.bool, [])] (.s .p (.s .p (.s .p (.s (.s .p (.lp ⟨[(27, .d (.int .i64))], [(9009, true, .map 122 (.int .i64) (.int .i64)), (9011, true, .map 123 (.st 8) (.int .i64))], [1, 3, 4, 25, 26], [0], [], 9019⟩ ⟨[], [], [], [], [], 9019⟩ true (.s .p (.s .p (.j ⟨[], [(9009, true, .map 122 (.int .i64) (.int .i64)), (9011, true, .map 123 (.st 8) (.int .i64))], [1, 3, 4, 25, 26, 27], [0], [], 9020⟩ true (.s .p (.s (.s (.dr [0, 0, 0, 0, 0, 0, 0, 0, 0, 0, 0, 0, 0, 0, 0, 0, 0, 0, 0, 0, 0, 0, 0, 0, 0, 0] [] false []) .p) (.j ⟨[], [], [1, 3, 4, 5, 6, 25, 26, 27], [0, 9009, 9011, 9023], [], 30033⟩ true .p (.j ⟨[], [(9011, true, .map 123 (.st 8) (.int .i64))], [1, 3, 4, 6, 25, 26, 27], [0, 9009, 9023], [], 30033⟩ false (.s .p (.s (.ot 6 (.alt 6 (.free 7 (.alt 8 (.free 9 (.alt 10 .nil .nil)) .nil)) (.alt 8 (.free 9 (.alt 6 (.free 7 (.alt 10 .nil .nil)) .nil)) .nil))) .p)) .p)))) .p))))) .p)))) a := by kernel_rfl
def c_53 : Con te := conOf te [.d (.st 3)] [(.bool, [])] false fun a => tree_Right a.1
theorem ok_53 : Con.OK Tryz.prog te 53 c_53 ∧ bodyB Tryz.prog 53 = true := ⟨conOf_ok eqL_ok (tb_ok ok_104 (tb_ok ok_103 (tb_ok ok_102 tnil_ok))) Tryz.func53 (by kernel_rfl) e_53, by kernel_rfl⟩
theorem e_15 (a : PA te [.d (.st 4)]) : filesrv_Right a.1 = evFun Tryz.prog te eqL (tb 55 c_55 (tb 54 c_54 (tb 53 c_53 (tb 37 c_37 (tb 36 c_36 tnil))))) Tryz.f15 [.d (.st 4)] [(.bool, [])] (.s .p (.s .p (.s .p (.s (.s .p (.lp ⟨[(3, .d (.int .i64)), (27, .d (.int .i64))], [], [1, 25, 26], [0], [], 10014⟩ ⟨[], [], [], [], [], 10014⟩ true .p)) .p)))) a := by kernel_rfl
def c_15 : Con te := conOf te [.d (.st 4)] [(.bool, [])] false fun a => filesrv_Right a.1
theorem ok_15 : Con.OK Tryz.prog te 15 c_15 ∧ bodyB Tryz.prog 15 = true := ⟨conOf_ok eqL_ok (tb_ok ok_55 (tb_ok ok_54 (tb_ok ok_53 (tb_ok ok_37 (tb_ok ok_36 tnil_ok))))) Tryz.func15 (by kernel_rfl) e_15, by kernel_rfl⟩
theorem e_156 (a : PA te [.d (.int .i64)]) : ref10_Mode a.1 = evFun Tryz.prog te eqL tnil Tryz.f156 [.d (.int .i64)] [(.bool, [])] (.p : Pl) a := by kernel_rfl
def c_156 : Con te := conOf te [.d (.int .i64)] [(.bool, [])] false fun a => ref10_Mode a.1
theorem ok_156 : Con.OK Tryz.prog te 156 c_156 ∧ bodyB Tryz.prog 156 = true := ⟨conOf_ok eqL_ok tnil_ok Tryz.func156 (by kernel_rfl) e_156, by kernel_rfl⟩
theorem e_108 (a : PA te [.d (.int .i64)]) : ref10_IsDir a.1 = evFun Tryz.prog te eqL tnil Tryz.f108 [.d (.int .i64)] [(.bool, [])] (.p : Pl) a := by kernel_rfl
def c_108 : Con te := conOf te [.d (.int .i64)] [(.bool, [])] false fun a => ref10_IsDir a.1
theorem ok_108 : Con.OK Tryz.prog te 108 c_108 ∧ bodyB Tryz.prog 108 = true := ⟨conOf_ok eqL_ok tnil_ok Tryz.func108 (by kernel_rfl) e_108, by kernel_rfl⟩
theorem e_106 (a : PA te [.d (.st 2)]) : ref10_fields a.1 = evFun Tryz.prog te eqL (tb 108 c_108 (tb 156 c_156 tnil)) Tryz.f106 [.d (.st 2)] [(.bool, [])] (.p : Pl) a := by kernel_rfl
def c_106 : Con te := conOf te [.d (.st 2)] [(.bool, [])] false fun a => ref10_fields a.1
theorem ok_106 : Con.OK Tryz.prog te 106 c_106 ∧ bodyB Tryz.prog 106 = true := ⟨conOf_ok eqL_ok (tb_ok ok_108 (tb_ok ok_156 tnil_ok)) Tryz.func106 (by kernel_rfl) e_106, by kernel_rfl⟩
theorem e_107 (a : PA te [.d .str]) : ref03_Valid a.1 = evFun Tryz.prog te eqL tnil Tryz.f107 [.d .str] [(.bool, [])] (.s .p (.s (.s .p (.lp ⟨[(3, .d (.int .i64))], [], [0], [], [], 2⟩ ⟨[], [], [0], [], [], 2⟩ true .p)) .p)) a := by kernel_rfl
def c_107 : Con te := conOf te [.d .str] [(.bool, [])] false fun a => ref03_Valid a.1
theorem ok_107 : Con.OK Tryz.prog te 107 c_107 ∧ bodyB Tryz.prog 107 = true := ⟨conOf_ok eqL_ok tnil_ok Tryz.func107 (by kernel_rfl) e_107, by kernel_rfl⟩
theorem e_56 (a : PA te [.d (.st 3)]) : ref10_Right a.1 = evFun Tryz.prog te eqL (tb 108 c_108 (tb 107 c_107 (tb 106 c_106 tnil))) Tryz.f56 [.d (.st 3)] [(.bool, [])] (.s .p (.s .p (.s .p (.s (.s (.dr [0, 0, 0, 0, 0, 0, 0, 0, 0, 0, 0, 0, 0, 0, 0] [] false []) .p) (.s (.s .p (.lp ⟨[(4, .d (.int .i64))], [], [3], [], [], 38027⟩ ⟨[], [], [], [], [], 38027⟩ true (.s .p (.s (.s (.s (.dr [0, 0, 0, 0, 0, 0, 0, 0, 0, 0, 0, 0, 0, 0, 0, 0, 0, 0, 0, 0, 0, 0, 0, 0, 0, 0, 0, 0, 0, 0, 0, 0, 0, 0, 0, 0, 0, 0, 0, 0, 0, 0] [] false []) .p) (.s .p (.s (.s .p (.lp ⟨[(5, .d .bool), (6, .d (.int .i64))], [], [3, 4], [], [], 65048⟩ ⟨[(5, .d .bool)], [], [3, 4], [], [], 65048⟩ true (.s .p (.s (.s (.dr [0, 0, 0, 0, 0, 0, 0, 0, 0, 0, 0, 0, 0, 0, 0, 0, 0, 0, 0, 0, 0, 0, 0] [] false []) (.s (.dr [0, 0, 0, 0, 0, 0, 0, 0, 0, 0, 0, 0, 0, 0, 0, 0, 0, 0, 0, 0, 0, 0, 0, 0, 0, 0, 0, 0] [] false []) .p)) .p)))) .p))) .p)))) .p))))) a := by kernel_rfl
def c_56 : Con te := conOf te [.d (.st 3)] [(.bool, [])] false fun a => ref10_Right a.1
theorem ok_56 : Con.OK Tryz.prog te 56 c_56 ∧ bodyB Tryz.prog 56 = true := ⟨conOf_ok eqL_ok (tb_ok ok_108 (tb_ok ok_107 (tb_ok ok_106 tnil_ok))) Tryz.func56 (by kernel_rfl) e_56, by kernel_rfl⟩
theorem e_77 (a : PA te [.d (.st 3), .d (.int .i64)]) : ref10_Index a.1 a.2.1 = evFun Tryz.prog te eqL tnil Tryz.f77 [.d (.st 3), .d (.int .i64)] [(.int .i64, [])] (.s .p (.s (.s .p (.lp ⟨[(5, .d (.int .i64))], [], [1, 2], [0], [], 4⟩ ⟨[], [], [], [], [], 4⟩ true .p)) .p)) a := by kernel_rfl
def c_77 : Con te := conOf te [.d (.st 3), .d (.int .i64)] [(.int .i64, [])] false fun a => ref10_Index a.1 a.2.1
theorem ok_77 : Con.OK Tryz.prog te 77 c_77 ∧ bodyB Tryz.prog 77 = true := ⟨conOf_ok eqL_ok tnil_ok Tryz.func77 (by kernel_rfl) e_77, by kernel_rfl⟩
theorem e_29 (a : PA te [.d (.st 3), .d (.int .i64)]) : ref10_Node a.1 a.2.1 = evFun Tryz.prog te eqL (tb 77 c_77 tnil) Tryz.f29 [.d (.st 3), .d (.int .i64)] [(.st 2, []), (.bool, [])] (.p : Pl) a := by kernel_rfl
def c_29 : Con te := conOf te [.d (.st 3), .d (.int .i64)] [(.st 2, []), (.bool, [])] false fun a => ref10_Node a.1 a.2.1
theorem ok_29 : Con.OK Tryz.prog te 29 c_29 ∧ bodyB Tryz.prog 29 = true := ⟨conOf_ok eqL_ok (tb_ok ok_77 tnil_ok) Tryz.func29 (by kernel_rfl) e_29, by kernel_rfl⟩
theorem e_57 (a : PA te [.d (.int .i64), .d (.int .i64)]) : ref13_has a.1 a.2.1 = evFun Tryz.prog te eqL tnil Tryz.f57 [.d (.int .i64), .d (.int .i64)] [(.bool, [])] (.p : Pl) a := by kernel_rfl
def c_57 : Con te := conOf te [.d (.int .i64), .d (.int .i64)] [(.bool, [])] false fun a => ref13_has a.1 a.2.1
theorem ok_57 : Con.OK Tryz.prog te 57 c_57 ∧ bodyB Tryz.prog 57 = true := ⟨conOf_ok eqL_ok tnil_ok Tryz.func57 (by kernel_rfl) e_57, by kernel_rfl⟩
theorem e_16 (a : PA te [.d (.st 4)]) : ref13_Right a.1 = evFun Tryz.prog te eqL (tb 57 c_57 (tb 29 c_29 (tb 56 c_56 (tb 45 c_45 (tb 44 c_44 tnil))))) Tryz.f16 [.d (.st 4)] [(.bool, [])] (.s .p (.s .p (.s (.s .p (.lp ⟨[(25, .d (.int .i64))], [], [1, 24], [0], [], 10013⟩ ⟨[], [], [], [], [], 10013⟩ true (.s .p (.s .p (.s (.s .p (.s (.dr [0, 0, 0, 0, 0, 0, 0, 0, 0, 0, 4, 1, 2, 4] [10] false []) (.s (.dr [0, 0, 0, 0, 0, 0, 0, 0, 0, 0, 0, 0, 0, 0, 0, 0, 0, 0, 0, 0, 0, 0, 0, 0, 0, 0] [] false []) .p))) .p))))) .p))) a := by kernel_rfl
def c_16 : Con te := conOf te [.d (.st 4)] [(.bool, [])] false fun a => ref13_Right a.1
theorem ok_16 : Con.OK Tryz.prog te 16 c_16 ∧ bodyB Tryz.prog 16 = true := ⟨conOf_ok eqL_ok (tb_ok ok_57 (tb_ok ok_29 (tb_ok ok_56 (tb_ok ok_45 (tb_ok ok_44 tnil_ok))))) Tryz.func16 (by kernel_rfl) e_16, by kernel_rfl⟩
theorem e_4 (a : PA te [.d (.st 4)]) : law13_FilesrvRight a.1 = evFun Tryz.prog te eqL (tb 16 c_16 (tb 15 c_15 (tb 11 c_11 (tb 10 c_10 tnil)))) Tryz.f4 [.d (.st 4)] [(.bool, [])] (.s .p (.s .p (.s (.dr [0, 0, 0, 0, 0, 0, 0, 0, 0] [] false []) .p))) a := by kernel_rfl
def c_4 : Con te := conOf te [.d (.st 4)] [(.bool, [])] false fun a => law13_FilesrvRight a.1
theorem ok_4 : Con.OK Tryz.prog te 4 c_4 ∧ bodyB Tryz.prog 4 = true := ⟨conOf_ok eqL_ok (tb_ok ok_16 (tb_ok ok_15 (tb_ok ok_11 (tb_ok ok_10 tnil_ok)))) Tryz.func4 (by kernel_rfl) e_4, by kernel_rfl⟩
theorem e_17 (a : PA te [.d (.st 4), .d .str, .d (.int .i64), .d .str]) : filesrv_Walk a.1 a.2.1 a.2.2.1 a.2.2.2.1 = evFun Tryz.prog te eqL (tb 60 c_60 (tb 59 c_59 (tb 58 c_58 tnil))) Tryz.f17 [.d (.st 4), .d .str, .d (.int .i64), .d .str] [(.int .i64, []), (.int .i64, [])] (.p : Pl) a := by kernel_rfl
def c_17 : Con te := conOf te [.d (.st 4), .d .str, .d (.int .i64), .d .str] [(.int .i64, []), (.int .i64, [])] false fun a => filesrv_Walk a.1 a.2.1 a.2.2.1 a.2.2.2.1
theorem ok_17 : Con.OK Tryz.prog te 17 c_17 ∧ bodyB Tryz.prog 17 = true := ⟨conOf_ok eqL_ok (tb_ok ok_60 (tb_ok ok_59 (tb_ok ok_58 tnil_ok))) Tryz.func17 (by kernel_rfl) e_17, by kernel_rfl⟩
theorem e_78 (a : PA te [.d (.int .i64), .d (.int .i64)]) : ref06_Bit a.1 a.2.1 = evFun Tryz.prog te eqL tnil Tryz.f78 [.d (.int .i64), .d (.int .i64)] [(.bool, [])] (.p : Pl) a := by kernel_rfl
def c_78 : Con te := conOf te [.d (.int .i64), .d (.int .i64)] [(.bool, [])] false fun a => ref06_Bit a.1 a.2.1
theorem ok_78 : Con.OK Tryz.prog te 78 c_78 ∧ bodyB Tryz.prog 78 = true := ⟨conOf_ok eqL_ok tnil_ok Tryz.func78 (by kernel_rfl) e_78, by kernel_rfl⟩
theorem e_132 (a : PA te [.d (.sl (.st 0)), .d .str]) : ref05_Find a.1 a.2.1 = evFun Tryz.prog te eqL (tb 153 c_153 tnil) Tryz.f132 [.d (.sl (.st 0)), .d .str] [(.st 0, []), (.bool, [])] (.p : Pl) a := by kernel_rfl
def c_132 : Con te := conOf te [.d (.sl (.st 0)), .d .str] [(.st 0, []), (.bool, [])] true fun a => ref05_Find a.1 a.2.1
theorem ok_132 : Con.OK Tryz.prog te 132 c_132 ∧ bodyB Tryz.prog 132 = true := ⟨conOf_ok eqL_ok (tb_ok ok_153 tnil_ok) Tryz.func132 (by kernel_rfl) e_132, by kernel_rfl⟩
theorem e_79 (a : PA te [.d (.sl (.st 0)), .d .str, .d .str]) : ref05_Member a.1 a.2.1 a.2.2.1 = evFun Tryz.prog te eqL (tb 132 c_132 tnil) Tryz.f79 [.d (.sl (.st 0)), .d .str, .d .str] [(.bool, [])] (.s .p (.s .p (.s .p (.s (.s .p (.lp ⟨[(22, .d (.int .i64))], [], [1, 7, 21], [10], [], 19⟩ ⟨[], [], [], [], [], 19⟩ true .p)) .p)))) a := by kernel_rfl
def c_79 : Con te := conOf te [.d (.sl (.st 0)), .d .str, .d .str] [(.bool, [])] false fun a => ref05_Member a.1 a.2.1 a.2.2.1
theorem ok_79 : Con.OK Tryz.prog te 79 c_79 ∧ bodyB Tryz.prog 79 = true := ⟨conOf_ok eqL_ok (tb_ok ok_132 tnil_ok) Tryz.func79 (by kernel_rfl) e_79, by kernel_rfl⟩
theorem e_30 (a : PA te [.d (.sl (.st 0)), .d .str, .d .str, .d .str, .d (.int .i64), .d (.int .i64)]) : ref06_Allows a.1 a.2.1 a.2.2.1 a.2.2.2.1 a.2.2.2.2.1 a.2.2.2.2.2.1 = evFun Tryz.prog te eqL (tb 79 c_79 (tb 78 c_78 tnil)) Tryz.f30 [.d (.sl (.st 0)), .d .str, .d .str, .d .str, .d (.int .i64), .d (.int .i64)] [(.bool, [])] (.s .p (.s .p (.s (.s .p (.lp ⟨[(13, .d (.int .i64))], [], [0, 1, 2, 3, 4, 5], [], [], 6006⟩ ⟨[], [], [], [], [], 6006⟩ true .p)) .p))) a := by kernel_rfl
def c_30 : Con te := conOf te [.d (.sl (.st 0)), .d .str, .d .str, .d .str, .d (.int .i64), .d (.int .i64)] [(.bool, [])] false fun a => ref06_Allows a.1 a.2.1 a.2.2.1 a.2.2.2.1 a.2.2.2.2.1 a.2.2.2.2.2.1
theorem ok_30 : Con.OK Tryz.prog te 30 c_30 ∧ bodyB Tryz.prog 30 = true := ⟨conOf_ok eqL_ok (tb_ok ok_79 (tb_ok ok_78 tnil_ok)) Tryz.func30 (by kernel_rfl) e_30, by kernel_rfl⟩
theorem e_61 (a : PA te [.d (.st 4), .d .str, .d (.int .i64), .d (.int .i64)]) : ref13_may a.1 a.2.1 a.2.2.1 a.2.2.2.1 = evFun Tryz.prog te eqL (tb 30 c_30 (tb 29 c_29 tnil)) Tryz.f61 [.d (.st 4), .d .str, .d (.int .i64), .d (.int .i64)] [(.bool, [])] (.p : Pl) a := by kernel_rfl
def c_61 : Con te := conOf te [.d (.st 4), .d .str, .d (.int .i64), .d (.int .i64)] [(.bool, [])] false fun a => ref13_may a.1 a.2.1 a.2.2.1 a.2.2.2.1
theorem ok_61 : Con.OK Tryz.prog te 61 c_61 ∧ bodyB Tryz.prog 61 = true := ⟨conOf_ok eqL_ok (tb_ok ok_30 (tb_ok ok_29 tnil_ok)) Tryz.func61 (by kernel_rfl) e_61, by kernel_rfl⟩
theorem e_62 (a : PA te [.d (.st 3), .d (.int .i64), .d .str]) : ref10_Find a.1 a.2.1 a.2.2.1 = evFun Tryz.prog te eqL (tb 108 c_108 (tb 29 c_29 tnil)) Tryz.f62 [.d (.st 3), .d (.int .i64), .d .str] [(.int .i64, []), (.int .i64, [])] (.s .p (.s .p (.s .p (.s .p (.s .p (.s (.s .p (.lp ⟨[(10, .d (.int .i64))], [], [1, 2, 3], [0], [], 24⟩ ⟨[], [], [], [], [], 24⟩ true .p)) .p)))))) a := by kernel_rfl
def c_62 : Con te := conOf te [.d (.st 3), .d (.int .i64), .d .str] [(.int .i64, []), (.int .i64, [])] false fun a => ref10_Find a.1 a.2.1 a.2.2.1
theorem ok_62 : Con.OK Tryz.prog te 62 c_62 ∧ bodyB Tryz.prog 62 = true := ⟨conOf_ok eqL_ok (tb_ok ok_108 (tb_ok ok_29 tnil_ok)) Tryz.func62 (by kernel_rfl) e_62, by kernel_rfl⟩
theorem e_18 (a : PA te [.d (.st 4), .d .str, .d (.int .i64), .d .str]) : ref13_Walk a.1 a.2.1 a.2.2.1 a.2.2.2.1 = evFun Tryz.prog te eqL (tb 62 c_62 (tb 61 c_61 (tb 57 c_57 (tb 46 c_46 (tb 29 c_29 tnil))))) Tryz.f18 [.d (.st 4), .d .str, .d (.int .i64), .d .str] [(.int .i64, []), (.int .i64, [])] (.p : Pl) a := by kernel_rfl
def c_18 : Con te := conOf te [.d (.st 4), .d .str, .d (.int .i64), .d .str] [(.int .i64, []), (.int .i64, [])] false fun a => ref13_Walk a.1 a.2.1 a.2.2.1 a.2.2.2.1
theorem ok_18 : Con.OK Tryz.prog te 18 c_18 ∧ bodyB Tryz.prog 18 = true := ⟨conOf_ok eqL_ok (tb_ok ok_62 (tb_ok ok_61 (tb_ok ok_57 (tb_ok ok_46 (tb_ok ok_29 tnil_ok))))) Tryz.func18 (by kernel_rfl) e_18, by kernel_rfl⟩
theorem e_20 (a : PA te [.d (.st 4), .d (.int .i64), .d (.int .i64), .d (.int .i64)]) : ref13_Read a.1 a.2.1 a.2.2.1 a.2.2.2.1 = evFun Tryz.prog te eqL (tb 57 c_57 (tb 29 c_29 tnil)) Tryz.f20 [.d (.st 4), .d (.int .i64), .d (.int .i64), .d (.int .i64)] [(.str, []), (.int .i64, [])] (.s .p (.s .p (.s .p (.s .p (.j ⟨[(12, .d .str)], [], [], [], [], 3038⟩ false .p .p))))) a := by kernel_rfl
def c_20 : Con te := conOf te [.d (.st 4), .d (.int .i64), .d (.int .i64), .d (.int .i64)] [(.str, []), (.int .i64, [])] false fun a => ref13_Read a.1 a.2.1 a.2.2.1 a.2.2.2.1
theorem ok_20 : Con.OK Tryz.prog te 20 c_20 ∧ bodyB Tryz.prog 20 = true := ⟨conOf_ok eqL_ok (tb_ok ok_57 (tb_ok ok_29 tnil_ok)) Tryz.func20 (by kernel_rfl) e_20, by kernel_rfl⟩
theorem e_114 (a : PA te [.d (.int .i64), .d (.int .i64)]) : dirread_has a.1 a.2.1 = evFun Tryz.prog te eqL tnil Tryz.f114 [.d (.int .i64), .d (.int .i64)] [(.bool, [])] (.p : Pl) a := by kernel_rfl
def c_114 : Con te := conOf te [.d (.int .i64), .d (.int .i64)] [(.bool, [])] false fun a => dirread_has a.1 a.2.1
theorem ok_114 : Con.OK Tryz.prog te 114 c_114 ∧ bodyB Tryz.prog 114 = true := ⟨conOf_ok eqL_ok tnil_ok Tryz.func114 (by kernel_rfl) e_114, by kernel_rfl⟩
theorem e_113 (a : PA te [.d (.int .i64)]) : dirread_kind a.1 = evFun Tryz.prog te eqL (tb 114 c_114 tnil) Tryz.f113 [.d (.int .i64)] [(.int .i64, [])] (.s .p (.s .p (.j ⟨[(3, .d (.int .i64))], [], [0], [], [], 2⟩ false .p (.j ⟨[(3, .d (.int .i64))], [], [0], [], [], 2⟩ false .p (.j ⟨[(3, .d (.int .i64))], [], [0], [], [], 2⟩ false .p (.j ⟨[(3, .d (.int .i64))], [], [], [], [], 2⟩ false .p .p)))))) a := by kernel_rfl
def c_113 : Con te := conOf te [.d (.int .i64)] [(.int .i64, [])] false fun a => dirread_kind a.1
theorem ok_113 : Con.OK Tryz.prog te 113 c_113 ∧ bodyB Tryz.prog 113 = true := ⟨conOf_ok eqL_ok (tb_ok ok_114 tnil_ok) Tryz.func113 (by kernel_rfl) e_113, by kernel_rfl⟩
theorem e_64 (a : PA te [.d (.st 2), .d (.int .i64)]) : dirread_Stat a.1 a.2.1 = evFun Tryz.prog te eqL (tb 114 c_114 (tb 113 c_113 tnil)) Tryz.f64 [.d (.st 2), .d (.int .i64)] [(.st 6, [])] (.s .p (.s (.dr [0, 0, 0, 0, 0, 0, 0, 0, 0, 0, 0, 0, 0, 0, 0, 0, 0, 0, 0, 0, 0, 0, 0, 0, 1, 2] [] false []) (.j ⟨[], [(28, true, .box 44 (.st 6))], [4, 5], [2], [], 32⟩ false .p .p))) a := by kernel_rfl
def c_64 : Con te := conOf te [.d (.st 2), .d (.int .i64)] [(.st 6, [])] false fun a => dirread_Stat a.1 a.2.1
theorem ok_64 : Con.OK Tryz.prog te 64 c_64 ∧ bodyB Tryz.prog 64 = true := ⟨conOf_ok eqL_ok (tb_ok ok_114 (tb_ok ok_113 tnil_ok)) Tryz.func64 (by kernel_rfl) e_64, by kernel_rfl⟩
theorem e_21 (a : PA te [.d (.st 4), .d (.int .i64)]) : filesrv_Stat a.1 a.2.1 = evFun Tryz.prog te eqL (tb 64 c_64 (tb 54 c_54 tnil)) Tryz.f21 [.d (.st 4), .d (.int .i64)] [(.st 6, []), (.int .i64, [])] (.p : Pl) a := by kernel_rfl
def c_21 : Con te := conOf te [.d (.st 4), .d (.int .i64)] [(.st 6, []), (.int .i64, [])] false fun a => filesrv_Stat a.1 a.2.1
theorem ok_21 : Con.OK Tryz.prog te 21 c_21 ∧ bodyB Tryz.prog 21 = true := ⟨conOf_ok eqL_ok (tb_ok ok_64 (tb_ok ok_54 tnil_ok)) Tryz.func21 (by kernel_rfl) e_21, by kernel_rfl⟩
theorem e_115 (a : PA te [.d (.int .i64), .d (.int .i64)]) : ref11_has a.1 a.2.1 = evFun Tryz.prog te eqL tnil Tryz.f115 [.d (.int .i64), .d (.int .i64)] [(.bool, [])] (.p : Pl) a := by kernel_rfl
def c_115 : Con te := conOf te [.d (.int .i64), .d (.int .i64)] [(.bool, [])] false fun a => ref11_has a.1 a.2.1
theorem ok_115 : Con.OK Tryz.prog te 115 c_115 ∧ bodyB Tryz.prog 115 = true := ⟨conOf_ok eqL_ok tnil_ok Tryz.func115 (by kernel_rfl) e_115, by kernel_rfl⟩
theorem e_65 (a : PA te [.d (.st 2), .d (.int .i64)]) : ref11_Stat a.1 a.2.1 = evFun Tryz.prog te eqL (tb 115 c_115 tnil) Tryz.f65 [.d (.st 2), .d (.int .i64)] [(.st 6, [])] (.s .p (.s .p (.j ⟨[(5, .d (.int .i64))], [], [1, 2, 4], [0, 2], [], 5⟩ false .p (.j ⟨[(5, .d (.int .i64))], [], [1, 2, 4], [0, 2], [], 5⟩ false .p (.j ⟨[(5, .d (.int .i64))], [], [1, 2, 4], [0, 2], [], 5⟩ false .p (.j ⟨[(5, .d (.int .i64))], [], [1, 2, 4], [0, 2], [], 5⟩ false .p (.s .p (.j ⟨[(6, .d (.int .i64))], [], [1, 2, 4, 5], [0, 2], [], 9⟩ false .p .p)))))))) a := by kernel_rfl
def c_65 : Con te := conOf te [.d (.st 2), .d (.int .i64)] [(.st 6, [])] false fun a => ref11_Stat a.1 a.2.1
theorem ok_65 : Con.OK Tryz.prog te 65 c_65 ∧ bodyB Tryz.prog 65 = true := ⟨conOf_ok eqL_ok (tb_ok ok_115 tnil_ok) Tryz.func65 (by kernel_rfl) e_65, by kernel_rfl⟩
theorem e_22 (a : PA te [.d (.st 4), .d (.int .i64)]) : ref13_Stat a.1 a.2.1 = evFun Tryz.prog te eqL (tb 65 c_65 (tb 29 c_29 tnil)) Tryz.f22 [.d (.st 4), .d (.int .i64)] [(.st 6, []), (.int .i64, [])] (.p : Pl) a := by kernel_rfl
def c_22 : Con te := conOf te [.d (.st 4), .d (.int .i64)] [(.st 6, []), (.int .i64, [])] false fun a => ref13_Stat a.1 a.2.1
theorem ok_22 : Con.OK Tryz.prog te 22 c_22 ∧ bodyB Tryz.prog 22 = true := ⟨conOf_ok eqL_ok (tb_ok ok_65 (tb_ok ok_29 tnil_ok)) Tryz.func22 (by kernel_rfl) e_22, by kernel_rfl⟩
theorem e_66 (a : PA te [.d (.st 3), .d (.int .i64)]) : tree_Children a.1 a.2.1 = evFun Tryz.prog te eqL (tb 110 c_110 tnil) Tryz.f66 [.d (.st 3), .d (.int .i64)] [(.sl (.int .i64), [some 3])] (.s .p (.s .p (.s .p (.s (.s .p (.lp ⟨[(5, .one (.own 12)), (15, .d (.int .i64))], [(12, false, .row 3 (.int .i64) [])], [1, 13, 14], [], [], 13⟩ ⟨[(5, .one (.own 12))], [(12, false, .row 3 (.int .i64) [])], [], [], [], 13⟩ false (.s .p (.s .p (.j ⟨[(5, .one (.own 14))], [(14, false, .row 3 (.int .i64) [])], [1, 13, 14, 15], [], [], 15⟩ false .p .p))))) .p)))) a := by kernel_rfl
def c_66 : Con te := conOf te [.d (.st 3), .d (.int .i64)] [(.sl (.int .i64), [some 3])] false fun a => tree_Children a.1 a.2.1
theorem ok_66 : Con.OK Tryz.prog te 66 c_66 ∧ bodyB Tryz.prog 66 = true := ⟨conOf_ok eqL_ok (tb_ok ok_110 tnil_ok) Tryz.func66 (by kernel_rfl) e_66, by kernel_rfl⟩
theorem e_23 (a : PA te [.d (.st 4), .d (.int .i64)]) : filesrv_List a.1 a.2.1 = evFun Tryz.prog te eqL (tb 64 c_64 (tb 66 c_66 (tb 55 c_55 (tb 54 c_54 tnil)))) Tryz.f23 [.d (.st 4), .d (.int .i64)] [(.sl (.st 6), [some 44]), (.int .i64, [])] (.s .p (.s .p (.s .p (.s .p (.s .p (.s (.s .p (.lp ⟨[(8, .one (.own 30)), (31, .d (.int .i64))], [(30, false, .row 44 (.st 6) []), (26, true, .row 3 (.int .i64) [])], [2, 29, 30], [0], [], 31⟩ ⟨[(8, .one (.own 30))], [(30, false, .row 44 (.st 6) [])], [], [], [], 31⟩ false .p)) .p)))))) a := by kernel_rfl
def c_23 : Con te := conOf te [.d (.st 4), .d (.int .i64)] [(.sl (.st 6), [some 44]), (.int .i64, [])] false fun a => filesrv_List a.1 a.2.1
theorem ok_23 : Con.OK Tryz.prog te 23 c_23 ∧ bodyB Tryz.prog 23 = true := ⟨conOf_ok eqL_ok (tb_ok ok_64 (tb_ok ok_66 (tb_ok ok_55 (tb_ok ok_54 tnil_ok)))) Tryz.func23 (by kernel_rfl) e_23, by kernel_rfl⟩
theorem e_67 (a : PA te [.d (.st 3), .d (.int .i64)]) : ref10_Children a.1 a.2.1 = evFun Tryz.prog te eqL tnil Tryz.f67 [.d (.st 3), .d (.int .i64)] [(.sl (.int .i64), [some 3])] (.s .p (.s .p (.s (.s .p (.lp ⟨[(5, .one (.own 5)), (6, .d (.int .i64))], [(5, false, .row 3 (.int .i64) [])], [1, 2], [0], [], 6⟩ ⟨[(5, .one (.own 5))], [(5, false, .row 3 (.int .i64) [])], [], [], [], 6⟩ false (.s .p (.j ⟨[(5, .one (.own 11))], [(11, false, .row 3 (.int .i64) [])], [1, 2, 6], [0], [], 12⟩ false .p .p)))) .p))) a := by kernel_rfl
def c_67 : Con te := conOf te [.d (.st 3), .d (.int .i64)] [(.sl (.int .i64), [some 3])] false fun a => ref10_Children a.1 a.2.1
theorem ok_67 : Con.OK Tryz.prog te 67 c_67 ∧ bodyB Tryz.prog 67 = true := ⟨conOf_ok eqL_ok tnil_ok Tryz.func67 (by kernel_rfl) e_67, by kernel_rfl⟩
theorem e_24 (a : PA te [.d (.st 4), .d (.int .i64)]) : ref13_List a.1 a.2.1 = evFun Tryz.prog te eqL (tb 22 c_22 (tb 67 c_67 (tb 57 c_57 (tb 29 c_29 tnil)))) Tryz.f24 [.d (.st 4), .d (.int .i64)] [(.sl (.st 6), [some 44]), (.int .i64, [])] (.s .p (.s .p (.s .p (.s .p (.s .p (.s .p (.s (.s .p (.lp ⟨[(8, .one (.own 32)), (32, .d (.int .i64))], [(32, false, .row 44 (.st 6) []), (26, true, .row 3 (.int .i64) [])], [2, 9, 31], [0], [], 33⟩ ⟨[(8, .one (.own 32))], [(32, false, .row 44 (.st 6) [])], [], [], [], 33⟩ false (.s .p (.s .p (.s (.s .p (.s (.dr [0, 0, 0, 0, 0, 0, 0, 0, 4, 1, 2, 4] [8] false []) .p)) .p))))) .p))))))) a := by kernel_rfl
def c_24 : Con te := conOf te [.d (.st 4), .d (.int .i64)] [(.sl (.st 6), [some 44]), (.int .i64, [])] false fun a => ref13_List a.1 a.2.1
theorem ok_24 : Con.OK Tryz.prog te 24 c_24 ∧ bodyB Tryz.prog 24 = true := ⟨conOf_ok eqL_ok (tb_ok ok_22 (tb_ok ok_67 (tb_ok ok_57 (tb_ok ok_29 tnil_ok)))) Tryz.func24 (by kernel_rfl) e_24, by kernel_rfl⟩
theorem e_25 (a : PA te [.d (.sl (.st 6)), .d (.sl (.st 6))]) : ref13_SameDirs a.1 a.2.1 = evFun Tryz.prog te eqL tnil Tryz.f25 [.d (.sl (.st 6)), .d (.sl (.st 6))] [(.bool, [])] (.s .p (.s .p (.s (.s .p (.lp ⟨[(13, .d (.int .i64))], [], [0, 1, 12], [], [], 9⟩ ⟨[], [], [], [], [], 9⟩ true (.s .p (.s .p (.s (.s .p (.s (.dr [0, 0, 0, 0, 0, 0, 0, 0, 0] [] false []) .p)) .p))))) .p))) a := by kernel_rfl
def c_25 : Con te := conOf te [.d (.sl (.st 6)), .d (.sl (.st 6))] [(.bool, [])] false fun a => ref13_SameDirs a.1 a.2.1
theorem ok_25 : Con.OK Tryz.prog te 25 c_25 ∧ bodyB Tryz.prog 25 = true := ⟨conOf_ok eqL_ok tnil_ok Tryz.func25 (by kernel_rfl) e_25, by kernel_rfl⟩
theorem e_5 (a : PA te [.d (.st 4), .d .str, .d (.int .i64), .d .str, .d (.int .i64), .d (.int .i64)]) : law13_FilesrvReads a.1 a.2.1 a.2.2.1 a.2.2.2.1 a.2.2.2.2.1 a.2.2.2.2.2.1 = evFun Tryz.prog te eqL (tb 25 c_25 (tb 24 c_24 (tb 23 c_23 (tb 22 c_22 (tb 21 c_21 (tb 20 c_20 (tb 19 c_19 (tb 18 c_18 (tb 17 c_17 (tb 11 c_11 (tb 16 c_16 (tb 10 c_10 tnil)))))))))))) Tryz.f5 [.d (.st 4), .d .str, .d (.int .i64), .d .str, .d (.int .i64), .d (.int .i64)] [(.bool, [])] (.p : Pl) a := by kernel_rfl
def c_5 : Con te := conOf te [.d (.st 4), .d .str, .d (.int .i64), .d .str, .d (.int .i64), .d (.int .i64)] [(.bool, [])] false fun a => law13_FilesrvReads a.1 a.2.1 a.2.2.1 a.2.2.2.1 a.2.2.2.2.1 a.2.2.2.2.2.1
theorem ok_5 : Con.OK Tryz.prog te 5 c_5 ∧ bodyB Tryz.prog 5 = true := ⟨conOf_ok eqL_ok (tb_ok ok_25 (tb_ok ok_24 (tb_ok ok_23 (tb_ok ok_22 (tb_ok ok_21 (tb_ok ok_20 (tb_ok ok_19 (tb_ok ok_18 (tb_ok ok_17 (tb_ok ok_11 (tb_ok ok_16 (tb_ok ok_10 tnil_ok)))))))))))) Tryz.func5 (by kernel_rfl) e_5, by kernel_rfl⟩
theorem e_26 (a : PA te [.d (.st 9)]) : law13_light a.1 = evFun Tryz.prog te eqL tnil Tryz.f26 [.d (.st 9)] [(.bool, [])] (.p : Pl) a := by kernel_rfl
def c_26 : Con te := conOf te [.d (.st 9)] [(.bool, [])] false fun a => law13_light a.1
theorem ok_26 : Con.OK Tryz.prog te 26 c_26 ∧ bodyB Tryz.prog 26 = true := ⟨conOf_ok eqL_ok tnil_ok Tryz.func26 (by kernel_rfl) e_26, by kernel_rfl⟩
theorem e_184 (a : PA te [.d (.sl (.int .i64)), .d (.int .i64)]) : slices_Index_intint a.1 a.2.1 = evFun Tryz.prog te eqL tnil Tryz.f184 [.d (.sl (.int .i64)), .d (.int .i64)] [(.int .i64, [])] (.s .p (.s (.s .p (.lp ⟨[(8, .d (.int .i64))], [], [0, 1, 7], [], [], 4⟩ ⟨[], [], [], [], [], 4⟩ true .p)) .p)) a := by kernel_rfl
def c_184 : Con te := conOf te [.d (.sl (.int .i64)), .d (.int .i64)] [(.int .i64, [])] false fun a => slices_Index_intint a.1 a.2.1
theorem ok_184 : Con.OK Tryz.prog te 184 c_184 ∧ bodyB Tryz.prog 184 = true := ⟨conOf_ok eqL_ok tnil_ok Tryz.func184 (by kernel_rfl) e_184, by kernel_rfl⟩
theorem e_159 (a : PA te [.d (.sl (.int .i64)), .d (.int .i64)]) : slices_Contains_intint a.1 a.2.1 = evFun Tryz.prog te eqL (tb 184 c_184 tnil) Tryz.f159 [.d (.sl (.int .i64)), .d (.int .i64)] [(.bool, [])] (.p : Pl) a := by kernel_rfl
def c_159 : Con te := conOf te [.d (.sl (.int .i64)), .d (.int .i64)] [(.bool, [])] false fun a => slices_Contains_intint a.1 a.2.1
theorem ok_159 : Con.OK Tryz.prog te 159 c_159 ∧ bodyB Tryz.prog 159 = true := ⟨conOf_ok eqL_ok (tb_ok ok_184 tnil_ok) Tryz.func159 (by kernel_rfl) e_159, by kernel_rfl⟩
theorem e_116 (a : PA te [.d (.st 4), .d .str, .d (.st 2), .d (.int .i64)]) : filesrv_opens a.1 a.2.1 a.2.2.1 a.2.2.2.1 = evFun Tryz.prog te eqL (tb 159 c_159 (tb 117 c_117 (tb 59 c_59 (tb 55 c_55 (tb 136 c_136 tnil))))) Tryz.f116 [.d (.st 4), .d .str, .d (.st 2), .d (.int .i64)] [(.int .i64, [])] (.p : Pl) a := by kernel_rfl
def c_116 : Con te := conOf te [.d (.st 4), .d .str, .d (.st 2), .d (.int .i64)] [(.int .i64, [])] false fun a => filesrv_opens a.1 a.2.1 a.2.2.1 a.2.2.2.1
theorem ok_116 : Con.OK Tryz.prog te 116 c_116 ∧ bodyB Tryz.prog 116 = true := ⟨conOf_ok eqL_ok (tb_ok ok_159 (tb_ok ok_117 (tb_ok ok_59 (tb_ok ok_55 (tb_ok ok_136 tnil_ok))))) Tryz.func116 (by kernel_rfl) e_116, by kernel_rfl⟩
theorem e_68 (a : PA te [.d (.st 4), .d .str, .d (.int .i64), .d (.int .i64), .d (.int .i64)]) : filesrv_Open a.1 a.2.1 a.2.2.1 a.2.2.2.1 a.2.2.2.2.1 = evFun Tryz.prog te eqL (tb 85 c_85 (tb 90 c_90 (tb 42 c_42 (tb 55 c_55 (tb 116 c_116 (tb 86 c_86 (tb 81 c_81 tnil))))))) Tryz.f68 [.d (.st 4), .d .str, .d (.int .i64), .d (.int .i64), .d (.int .i64)] [(.st 4, []), (.int .i64, [])] (.s .p (.s .p (.s .p (.s .p (.s .p (.j ⟨[], [(11, true, .cells 30 [.own 6, .own 7, .v (.int .i64), .own 37, .own 9]), (6, true, .row 68 (.st 0) []), (7, true, .row 70 (.st 1) []), (37, false, .row 60 (.st 2) []), (9, true, .row 3 (.int .i64) [])], [2, 10, 12, 13], [2, 22], [], 38⟩ false (.s .p (.s (.dr [0, 0, 0, 0, 0, 0, 1, 4, 4, 4, 4, 2] [] false []) .p)) (.j ⟨[], [(11, true, .cells 30 [.v (.sl (.st 0)), .v (.sl (.st 1)), .v (.int .i64), .v (.sl (.st 2)), .v (.sl (.int .i64))])], [10, 12], [2], [], 38⟩ false .p .p))))))) a := by kernel_rfl
def c_68 : Con te := conOf te [.d (.st 4), .d .str, .d (.int .i64), .d (.int .i64), .d (.int .i64)] [(.st 4, []), (.int .i64, [])] true fun a => filesrv_Open a.1 a.2.1 a.2.2.1 a.2.2.2.1 a.2.2.2.2.1
theorem ok_68 : Con.OK Tryz.prog te 68 c_68 ∧ bodyB Tryz.prog 68 = true := ⟨conOf_ok eqL_ok (tb_ok ok_85 (tb_ok ok_90 (tb_ok ok_42 (tb_ok ok_55 (tb_ok ok_116 (tb_ok ok_86 (tb_ok ok_81 tnil_ok))))))) Tryz.func68 (by kernel_rfl) e_68, by kernel_rfl⟩
theorem e_118 (a : PA te [.d (.st 3), .d (.int .i64), .d .str, .d (.int .i64)]) : tree_Remove a.1 a.2.1 a.2.2.1 a.2.2.2.1 = evFun Tryz.prog te eqL (tb 141 c_141 (tb 66 c_66 (tb 139 c_139 (tb 105 c_105 tnil)))) Tryz.f118 [.d (.st 3), .d (.int .i64), .d .str, .d (.int .i64)] [(.st 3, [none, some 60]), (.int .i64, [])] (.s .p (.s .p (.s .p (.s .p (.s (.dr [0, 0, 0, 0, 0, 0, 0, 0, 0, 0, 0, 2] [] false []) (.s (.dr [0, 0, 0, 0, 0, 0, 0, 0, 0, 2, 4, 2] [] false []) .p)))))) a := by kernel_rfl
def c_118 : Con te := conOf te [.d (.st 3), .d (.int .i64), .d .str, .d (.int .i64)] [(.st 3, [none, some 60]), (.int .i64, [])] false fun a => tree_Remove a.1 a.2.1 a.2.2.1 a.2.2.2.1
theorem ok_118 : Con.OK Tryz.prog te 118 c_118 ∧ bodyB Tryz.prog 118 = true := ⟨conOf_ok eqL_ok (tb_ok ok_141 (tb_ok ok_66 (tb_ok ok_139 (tb_ok ok_105 tnil_ok)))) Tryz.func118 (by kernel_rfl) e_118, by kernel_rfl⟩
theorem e_70 (a : PA te [.d (.st 4), .d .str, .d (.int .i64), .d (.int .i64)]) : filesrv_Remove a.1 a.2.1 a.2.2.1 a.2.2.2.1 = evFun Tryz.prog te eqL (tb 92 c_92 (tb 118 c_118 (tb 42 c_42 (tb 117 c_117 (tb 86 c_86 (tb 81 c_81 tnil)))))) Tryz.f70 [.d (.st 4), .d .str, .d (.int .i64), .d (.int .i64)] [(.st 4, []), (.int .i64, [])] (.s .p (.s .p (.s .p (.s .p (.s .p (.s (.df [0, 0, 0, 0, 0, 0, 1, 4, 4, 4, 1, 2, 4] [] 4) .p)))))) a := by kernel_rfl
def c_70 : Con te := conOf te [.d (.st 4), .d .str, .d (.int .i64), .d (.int .i64)] [(.st 4, []), (.int .i64, [])] true fun a => filesrv_Remove a.1 a.2.1 a.2.2.1 a.2.2.2.1
theorem ok_70 : Con.OK Tryz.prog te 70 c_70 ∧ bodyB Tryz.prog 70 = true := ⟨conOf_ok eqL_ok (tb_ok ok_92 (tb_ok ok_118 (tb_ok ok_42 (tb_ok ok_117 (tb_ok ok_86 (tb_ok ok_81 tnil_ok)))))) Tryz.func70 (by kernel_rfl) e_70, by kernel_rfl⟩
theorem e_69 (a : PA te [.d (.st 4), .d .str, .d (.int .i64), .d (.int .i64), .d (.int .i64)]) : filesrv_Close a.1 a.2.1 a.2.2.1 a.2.2.2.1 a.2.2.2.2.1 = evFun Tryz.prog te eqL (tb 70 c_70 (tb 55 c_55 (tb 92 c_92 (tb 81 c_81 tnil)))) Tryz.f69 [.d (.st 4), .d .str, .d (.int .i64), .d (.int .i64), .d (.int .i64)] [(.st 4, [])] (.s .p (.s .p (.j ⟨[], [], [10, 11], [2, 16], [], 20⟩ true .p .p))) a := by kernel_rfl
def c_69 : Con te := conOf te [.d (.st 4), .d .str, .d (.int .i64), .d (.int .i64), .d (.int .i64)] [(.st 4, [])] true fun a => filesrv_Close a.1 a.2.1 a.2.2.1 a.2.2.2.1 a.2.2.2.2.1
theorem ok_69 : Con.OK Tryz.prog te 69 c_69 ∧ bodyB Tryz.prog 69 = true := ⟨conOf_ok eqL_ok (tb_ok ok_70 (tb_ok ok_55 (tb_ok ok_92 (tb_ok ok_81 tnil_ok)))) Tryz.func69 (by kernel_rfl) e_69, by kernel_rfl⟩
theorem e_27 (a : PA te [.d (.st 4), .d (.st 9)]) : law13_did a.1 a.2.1 = evFun Tryz.prog te eqL (tb 34 c_34 (tb 70 c_70 (tb 69 c_69 (tb 35 c_35 (tb 32 c_32 (tb 68 c_68 tnil)))))) Tryz.f27 [.d (.st 4), .d (.st 9)] [(.st 4, []), (.int .i64, []), (.int .i64, [])] (.s .p (.s .p (.j ⟨[(7, .d (.int .i64)), (8, .d (.int .i64))], [(0, true, .cells 30 [.v (.sl (.st 0)), .v (.sl (.st 1)), .v (.int .i64), .v (.sl (.st 2)), .v (.sl (.int .i64))])], [2, 4], [4], [], 10⟩ false .p .p))) a := by kernel_rfl
def c_27 : Con te := conOf te [.d (.st 4), .d (.st 9)] [(.st 4, []), (.int .i64, []), (.int .i64, [])] true fun a => law13_did a.1 a.2.1
theorem ok_27 : Con.OK Tryz.prog te 27 c_27 ∧ bodyB Tryz.prog 27 = true := ⟨conOf_ok eqL_ok (tb_ok ok_34 (tb_ok ok_70 (tb_ok ok_69 (tb_ok ok_35 (tb_ok ok_32 (tb_ok ok_68 tnil_ok)))))) Tryz.func27 (by kernel_rfl) e_27, by kernel_rfl⟩
theorem e_185 (a : PA te [.d (.int .i64)]) : ref06_Base a.1 = evFun Tryz.prog te eqL tnil Tryz.f185 [.d (.int .i64)] [(.int .i64, []), (.bool, []), (.bool, [])] (.s .p (.s (.s .p (.lp ⟨[(5, .d (.int .i64))], [], [0], [], [], 4⟩ ⟨[], [], [], [], [], 4⟩ true .p)) .p)) a := by kernel_rfl
def c_185 : Con te := conOf te [.d (.int .i64)] [(.int .i64, []), (.bool, []), (.bool, [])] false fun a => ref06_Base a.1
theorem ok_185 : Con.OK Tryz.prog te 185 c_185 ∧ bodyB Tryz.prog 185 = true := ⟨conOf_ok eqL_ok tnil_ok Tryz.func185 (by kernel_rfl) e_185, by kernel_rfl⟩
theorem e_160 (a : PA te [.d (.int .i64)]) : ref06_Open a.1 = evFun Tryz.prog te eqL (tb 185 c_185 tnil) Tryz.f160 [.d (.int .i64)] [(.int .i64, []), (.int .i64, [])] (.s .p (.s .p (.s .p (.s .p (.j ⟨[(7, .d (.int .i64))], [], [4, 5], [], [], 5016⟩ false .p (.j ⟨[(7, .d (.int .i64))], [], [4, 5], [], [], 5016⟩ false .p (.j ⟨[(7, .d (.int .i64))], [], [5], [], [], 5016⟩ false .p (.j ⟨[(7, .d (.int .i64))], [], [], [], [], 5016⟩ false .p .p)))))))) a := by kernel_rfl
def c_160 : Con te := conOf te [.d (.int .i64)] [(.int .i64, []), (.int .i64, [])] false fun a => ref06_Open a.1
theorem ok_160 : Con.OK Tryz.prog te 160 c_160 ∧ bodyB Tryz.prog 160 = true := ⟨conOf_ok eqL_ok (tb_ok ok_185 tnil_ok) Tryz.func160 (by kernel_rfl) e_160, by kernel_rfl⟩
theorem e_161 (a : PA te [.d (.sl (.int .i64)), .d (.int .i64)]) : ref13_in a.1 a.2.1 = evFun Tryz.prog te eqL tnil Tryz.f161 [.d (.sl (.int .i64)), .d (.int .i64)] [(.bool, [])] (.s .p (.s (.s .p (.lp ⟨[(8, .d (.int .i64))], [], [0, 1, 7], [], [], 4⟩ ⟨[], [], [], [], [], 4⟩ true .p)) .p)) a := by kernel_rfl
def c_161 : Con te := conOf te [.d (.sl (.int .i64)), .d (.int .i64)] [(.bool, [])] false fun a => ref13_in a.1 a.2.1
theorem ok_161 : Con.OK Tryz.prog te 161 c_161 ∧ bodyB Tryz.prog 161 = true := ⟨conOf_ok eqL_ok tnil_ok Tryz.func161 (by kernel_rfl) e_161, by kernel_rfl⟩
theorem e_119 (a : PA te [.d (.st 4), .d .str, .d (.int .i64), .d (.int .i64)]) : ref13_opens a.1 a.2.1 a.2.2.1 a.2.2.2.1 = evFun Tryz.prog te eqL (tb 161 c_161 (tb 61 c_61 (tb 57 c_57 (tb 160 c_160 (tb 46 c_46 (tb 29 c_29 tnil)))))) Tryz.f119 [.d (.st 4), .d .str, .d (.int .i64), .d (.int .i64)] [(.int .i64, [])] (.p : Pl) a := by kernel_rfl
def c_119 : Con te := conOf te [.d (.st 4), .d .str, .d (.int .i64), .d (.int .i64)] [(.int .i64, [])] false fun a => ref13_opens a.1 a.2.1 a.2.2.1 a.2.2.2.1
theorem ok_119 : Con.OK Tryz.prog te 119 c_119 ∧ bodyB Tryz.prog 119 = true := ⟨conOf_ok eqL_ok (tb_ok ok_161 (tb_ok ok_61 (tb_ok ok_57 (tb_ok ok_160 (tb_ok ok_46 (tb_ok ok_29 tnil_ok)))))) Tryz.func119 (by kernel_rfl) e_119, by kernel_rfl⟩
theorem e_162 (a : PA te [.d (.st 3), .d (.int .i64)]) : ref10_file a.1 a.2.1 = evFun Tryz.prog te eqL (tb 108 c_108 (tb 29 c_29 tnil)) Tryz.f162 [.d (.st 3), .d (.int .i64)] [(.st 2, []), (.int .i64, [])] (.p : Pl) a := by kernel_rfl
def c_162 : Con te := conOf te [.d (.st 3), .d (.int .i64)] [(.st 2, []), (.int .i64, [])] false fun a => ref10_file a.1 a.2.1
theorem ok_162 : Con.OK Tryz.prog te 162 c_162 ∧ bodyB Tryz.prog 162 = true := ⟨conOf_ok eqL_ok (tb_ok ok_108 (tb_ok ok_29 tnil_ok)) Tryz.func162 (by kernel_rfl) e_162, by kernel_rfl⟩
theorem e_163 (a : PA te [.d (.int .i64)]) : ref10_zeros a.1 = evFun Tryz.prog te eqL tnil Tryz.f163 [.d (.int .i64)] [(.str, [])] (.p : Pl) a := by kernel_rfl
def c_163 : Con te := conOf te [.d (.int .i64)] [(.str, [])] false fun a => ref10_zeros a.1
theorem ok_163 : Con.OK Tryz.prog te 163 c_163 ∧ bodyB Tryz.prog 163 = true := ⟨conOf_ok eqL_ok tnil_ok Tryz.func163 (by kernel_rfl) e_163, by kernel_rfl⟩
theorem e_165 (a : PA te [.d (.st 2), .d .str, .d (.int .i64)]) : ref10_touched a.1 a.2.1 a.2.2.1 = evFun Tryz.prog te eqL (tb 99 c_99 (tb 100 c_100 tnil)) Tryz.f165 [.d (.st 2), .d .str, .d (.int .i64)] [(.st 2, [])] (.p : Pl) a := by kernel_rfl
def c_165 : Con te := conOf te [.d (.st 2), .d .str, .d (.int .i64)] [(.st 2, [])] false fun a => ref10_touched a.1 a.2.1 a.2.2.1
theorem ok_165 : Con.OK Tryz.prog te 165 c_165 ∧ bodyB Tryz.prog 165 = true := ⟨conOf_ok eqL_ok (tb_ok ok_99 (tb_ok ok_100 tnil_ok)) Tryz.func165 (by kernel_rfl) e_165, by kernel_rfl⟩
theorem e_164 (a : PA te [.d (.st 3), .d (.st 2)]) : ref10_with a.1 a.2.1 = evFun Tryz.prog te eqL tnil Tryz.f164 [.d (.st 3), .d (.st 2)] [(.st 3, [none, some 60])] (.s .p (.s .p (.s (.s .p (.lp ⟨[(6, .d (.int .i64))], [(9, true, .cells 27 [.v (.int .i64), .own 14]), (14, false, .row 60 (.st 2) [])], [2, 3, 4, 5], [0, 2, 4], [], 15⟩ ⟨[], [(9, true, .cells 27 [.v (.int .i64), .own 14]), (14, false, .row 60 (.st 2) [])], [4, 5], [4], [], 15⟩ false (.s .p (.j ⟨[], [(9, true, .cells 27 [.v (.int .i64), .own 20]), (20, false, .row 60 (.st 2) [])], [2, 3, 4, 5, 6], [0, 2, 4], [], 21⟩ false (.s (.dr [0, 0, 0, 0, 0, 0, 0, 0, 0] [] false []) (.s .p (.dr [0, 0, 0, 0, 0, 0, 0, 1, 2, 4, 2] [] false []))) .p)))) .p))) a := by kernel_rfl
def c_164 : Con te := conOf te [.d (.st 3), .d (.st 2)] [(.st 3, [none, some 60])] false fun a => ref10_with a.1 a.2.1
theorem ok_164 : Con.OK Tryz.prog te 164 c_164 ∧ bodyB Tryz.prog 164 = true := ⟨conOf_ok eqL_ok tnil_ok Tryz.func164 (by kernel_rfl) e_164, by kernel_rfl⟩
theorem e_120 (a : PA te [.d (.st 3), .d (.int .i64), .d (.int .i64), .d .str, .d (.int .i64)]) : ref10_Resize a.1 a.2.1 a.2.2.1 a.2.2.2.1 a.2.2.2.2.1 = evFun Tryz.prog te eqL (tb 164 c_164 (tb 165 c_165 (tb 163 c_163 (tb 162 c_162 tnil)))) Tryz.f120 [.d (.st 3), .d (.int .i64), .d (.int .i64), .d .str, .d (.int .i64)] [(.st 3, []), (.int .i64, [])] (.s .p (.s .p (.s .p (.s .p (.s .p (.s .p (.s (.dr [0, 0, 0, 0, 0, 0, 0, 0, 0, 0, 0, 0, 0, 0, 0, 0, 2] [] false []) (.s (.dr [0, 0, 0, 0, 0, 1, 2, 4] [] false []) .p)))))))) a := by kernel_rfl
def c_120 : Con te := conOf te [.d (.st 3), .d (.int .i64), .d (.int .i64), .d .str, .d (.int .i64)] [(.st 3, []), (.int .i64, [])] true fun a => ref10_Resize a.1 a.2.1 a.2.2.1 a.2.2.2.1 a.2.2.2.2.1
theorem ok_120 : Con.OK Tryz.prog te 120 c_120 ∧ bodyB Tryz.prog 120 = true := ⟨conOf_ok eqL_ok (tb_ok ok_164 (tb_ok ok_165 (tb_ok ok_163 (tb_ok ok_162 tnil_ok)))) Tryz.func120 (by kernel_rfl) e_120, by kernel_rfl⟩
theorem e_121 (a : PA te [.d (.sl (.int .i64)), .d (.int .i64)]) : ref13_with a.1 a.2.1 = evFun Tryz.prog te eqL tnil Tryz.f121 [.d (.sl (.int .i64)), .d (.int .i64)] [(.sl (.int .i64), [some 3])] (.s .p (.s .p (.s .p (.s (.s .p (.lp ⟨[(5, .one (.own 6)), (6, .d .bool), (10, .d (.int .i64))], [(6, false, .row 3 (.int .i64) [])], [0, 1, 9], [], [], 7⟩ ⟨[(5, .one (.own 6)), (6, .d .bool)], [(6, false, .row 3 (.int .i64) [])], [1], [], [], 7⟩ false (.s .p (.s .p (.j ⟨[(5, .one (.own 8)), (6, .d .bool)], [(8, false, .row 3 (.int .i64) [])], [0, 1, 9, 10], [], [], 9⟩ false (.s .p (.j ⟨[(5, .one (.own 10)), (6, .d .bool)], [(10, false, .row 3 (.int .i64) [])], [0, 1, 7, 9, 10], [], [], 11⟩ false .p .p)) .p))))) (.j ⟨[(5, .one (.own 7))], [(7, false, .row 3 (.int .i64) [])], [], [], [], 8⟩ false .p .p))))) a := by kernel_rfl
def c_121 : Con te := conOf te [.d (.sl (.int .i64)), .d (.int .i64)] [(.sl (.int .i64), [some 3])] false fun a => ref13_with a.1 a.2.1
theorem ok_121 : Con.OK Tryz.prog te 121 c_121 ∧ bodyB Tryz.prog 121 = true := ⟨conOf_ok eqL_ok tnil_ok Tryz.func121 (by kernel_rfl) e_121, by kernel_rfl⟩
theorem e_71 (a : PA te [.d (.st 4), .d .str, .d (.int .i64), .d (.int .i64), .d (.int .i64)]) : ref13_Open a.1 a.2.1 a.2.2.1 a.2.2.2.1 a.2.2.2.2.1 = evFun Tryz.prog te eqL (tb 121 c_121 (tb 120 c_120 (tb 48 c_48 (tb 57 c_57 (tb 29 c_29 (tb 119 c_119 tnil)))))) Tryz.f71 [.d (.st 4), .d .str, .d (.int .i64), .d (.int .i64), .d (.int .i64)] [(.st 4, []), (.int .i64, [])] (.s .p (.s .p (.s .p (.j ⟨[], [(0, true, .box 30 (.st 4))], [2, 5, 10, 13], [2, 20], [], 25⟩ false (.s .p (.s (.dr [0, 0, 0, 0, 0, 0, 1, 4, 4, 4, 4, 2] [] false []) .p)) (.j ⟨[], [(0, true, .cells 30 [.v (.sl (.st 0)), .v (.sl (.st 1)), .v (.int .i64), .v (.sl (.st 2)), .v (.sl (.int .i64))])], [5, 10], [2], [], 25⟩ false .p .p))))) a := by kernel_rfl
def c_71 : Con te := conOf te [.d (.st 4), .d .str, .d (.int .i64), .d (.int .i64), .d (.int .i64)] [(.st 4, []), (.int .i64, [])] true fun a => ref13_Open a.1 a.2.1 a.2.2.1 a.2.2.2.1 a.2.2.2.2.1
theorem ok_71 : Con.OK Tryz.prog te 71 c_71 ∧ bodyB Tryz.prog 71 = true := ⟨conOf_ok eqL_ok (tb_ok ok_121 (tb_ok ok_120 (tb_ok ok_48 (tb_ok ok_57 (tb_ok ok_29 (tb_ok ok_119 tnil_ok)))))) Tryz.func71 (by kernel_rfl) e_71, by kernel_rfl⟩
theorem e_166 (a : PA te [.d (.int .i64)]) : ref13_made a.1 = evFun Tryz.prog te eqL (tb 57 c_57 tnil) Tryz.f166 [.d (.int .i64)] [(.bool, [])] (.p : Pl) a := by kernel_rfl
def c_166 : Con te := conOf te [.d (.int .i64)] [(.bool, [])] false fun a => ref13_made a.1
theorem ok_166 : Con.OK Tryz.prog te 166 c_166 ∧ bodyB Tryz.prog 166 = true := ⟨conOf_ok eqL_ok (tb_ok ok_57 tnil_ok) Tryz.func166 (by kernel_rfl) e_166, by kernel_rfl⟩
theorem e_186 (a : PA te [.d (.sl (.st 1)), .d .str]) : ref12_Find a.1 a.2.1 = evFun Tryz.prog te eqL tnil Tryz.f186 [.d (.sl (.st 1)), .d .str] [(.st 1, []), (.bool, [])] (.s .p (.s (.s .p (.lp ⟨[(6, .d (.int .i64))], [], [0, 1, 4], [0], [], 4⟩ ⟨[], [], [4], [0], [], 4⟩ true .p)) .p)) a := by kernel_rfl
def c_186 : Con te := conOf te [.d (.sl (.st 1)), .d .str] [(.st 1, []), (.bool, [])] false fun a => ref12_Find a.1 a.2.1
theorem ok_186 : Con.OK Tryz.prog te 186 c_186 ∧ bodyB Tryz.prog 186 = true := ⟨conOf_ok eqL_ok tnil_ok Tryz.func186 (by kernel_rfl) e_186, by kernel_rfl⟩
theorem e_80 (a : PA te [.d (.st 3), .d .str]) : ref12_Used a.1 a.2.1 = evFun Tryz.prog te eqL tnil Tryz.f80 [.d (.st 3), .d .str] [(.int .i64, []), (.int .i64, [])] (.s .p (.s .p (.s (.s .p (.lp ⟨[(6, .d (.int .i64)), (7, .d (.int .i64)), (8, .d (.int .i64))], [], [1, 2], [0], [], 7⟩ ⟨[(6, .d (.int .i64)), (7, .d (.int .i64))], [], [], [], [], 7⟩ false (.s .p (.j ⟨[(6, .d (.int .i64)), (7, .d (.int .i64))], [], [1, 2, 8], [0], [], 12⟩ false .p .p)))) .p))) a := by kernel_rfl
def c_80 : Con te := conOf te [.d (.st 3), .d .str] [(.int .i64, []), (.int .i64, [])] false fun a => ref12_Used a.1 a.2.1
theorem ok_80 : Con.OK Tryz.prog te 80 c_80 ∧ bodyB Tryz.prog 80 = true := ⟨conOf_ok eqL_ok tnil_ok Tryz.func80 (by kernel_rfl) e_80, by kernel_rfl⟩
theorem e_167 (a : PA te [.d (.sl (.st 1)), .d (.st 3), .d .str, .d (.int .i64), .d (.int .i64)]) : ref12_Fits a.1 a.2.1 a.2.2.1 a.2.2.2.1 a.2.2.2.2.1 = evFun Tryz.prog te eqL (tb 80 c_80 (tb 186 c_186 tnil)) Tryz.f167 [.d (.sl (.st 1)), .d (.st 3), .d .str, .d (.int .i64), .d (.int .i64)] [(.bool, [])] (.p : Pl) a := by kernel_rfl
def c_167 : Con te := conOf te [.d (.sl (.st 1)), .d (.st 3), .d .str, .d (.int .i64), .d (.int .i64)] [(.bool, [])] false fun a => ref12_Fits a.1 a.2.1 a.2.2.1 a.2.2.2.1 a.2.2.2.2.1
theorem ok_167 : Con.OK Tryz.prog te 167 c_167 ∧ bodyB Tryz.prog 167 = true := ⟨conOf_ok eqL_ok (tb_ok ok_80 (tb_ok ok_186 tnil_ok)) Tryz.func167 (by kernel_rfl) e_167, by kernel_rfl⟩
theorem e_122 (a : PA te [.d (.st 4), .d .str, .d (.int .i64), .d .str, .d (.int .i64), .d (.int .i64)]) : ref13_creates a.1 a.2.1 a.2.2.1 a.2.2.2.1 a.2.2.2.2.1 a.2.2.2.2.2.1 = evFun Tryz.prog te eqL (tb 167 c_167 (tb 61 c_61 (tb 62 c_62 (tb 160 c_160 (tb 166 c_166 (tb 107 c_107 (tb 57 c_57 (tb 46 c_46 (tb 29 c_29 tnil))))))))) Tryz.f122 [.d (.st 4), .d .str, .d (.int .i64), .d .str, .d (.int .i64), .d (.int .i64)] [(.int .i64, [])] (.p : Pl) a := by kernel_rfl
def c_122 : Con te := conOf te [.d (.st 4), .d .str, .d (.int .i64), .d .str, .d (.int .i64), .d (.int .i64)] [(.int .i64, [])] false fun a => ref13_creates a.1 a.2.1 a.2.2.1 a.2.2.2.1 a.2.2.2.2.1 a.2.2.2.2.2.1
theorem ok_122 : Con.OK Tryz.prog te 122 c_122 ∧ bodyB Tryz.prog 122 = true := ⟨conOf_ok eqL_ok (tb_ok ok_167 (tb_ok ok_61 (tb_ok ok_62 (tb_ok ok_160 (tb_ok ok_166 (tb_ok ok_107 (tb_ok ok_57 (tb_ok ok_46 (tb_ok ok_29 tnil_ok))))))))) Tryz.func122 (by kernel_rfl) e_122, by kernel_rfl⟩
theorem e_123 (a : PA te [.d (.int .i64), .d (.int .i64)]) : ref06_Inherit a.1 a.2.1 = evFun Tryz.prog te eqL (tb 78 c_78 tnil) Tryz.f123 [.d (.int .i64), .d (.int .i64)] [(.int .i64, [])] (.s .p (.s .p (.s .p (.s (.s .p (.lp ⟨[(5, .d (.int .i64)), (6, .d (.int .i64))], [], [0, 1], [], [], 3007⟩ ⟨[(5, .d (.int .i64))], [], [], [], [], 3007⟩ false (.s .p (.j ⟨[(5, .d (.int .i64))], [], [0, 1, 6], [], [], 3009⟩ false .p .p)))) .p)))) a := by kernel_rfl
def c_123 : Con te := conOf te [.d (.int .i64), .d (.int .i64)] [(.int .i64, [])] false fun a => ref06_Inherit a.1 a.2.1
theorem ok_123 : Con.OK Tryz.prog te 123 c_123 ∧ bodyB Tryz.prog 123 = true := ⟨conOf_ok eqL_ok (tb_ok ok_78 tnil_ok) Tryz.func123 (by kernel_rfl) e_123, by kernel_rfl⟩
theorem e_168 (a : PA te [.d (.st 3), .d (.int .i64), .d .str, .d (.int .i64)]) : ref10_moved a.1 a.2.1 a.2.2.1 a.2.2.2.1 = evFun Tryz.prog te eqL (tb 164 c_164 (tb 165 c_165 (tb 29 c_29 tnil))) Tryz.f168 [.d (.st 3), .d (.int .i64), .d .str, .d (.int .i64)] [(.st 3, [none, some 60])] (.s .p (.s .p (.s (.dr [0, 0, 0, 0, 0, 1, 2] [] false []) .p))) a := by kernel_rfl
def c_168 : Con te := conOf te [.d (.st 3), .d (.int .i64), .d .str, .d (.int .i64)] [(.st 3, [none, some 60])] false fun a => ref10_moved a.1 a.2.1 a.2.2.1 a.2.2.2.1
theorem ok_168 : Con.OK Tryz.prog te 168 c_168 ∧ bodyB Tryz.prog 168 = true := ⟨conOf_ok eqL_ok (tb_ok ok_164 (tb_ok ok_165 (tb_ok ok_29 tnil_ok))) Tryz.func168 (by kernel_rfl) e_168, by kernel_rfl⟩
theorem e_124 (a : PA te [.d (.st 3), .d (.int .i64), .d .str, .d (.int .i64), .d .str, .d .str, .d (.int .i64)]) : ref10_Create a.1 a.2.1 a.2.2.1 a.2.2.2.1 a.2.2.2.2.1 a.2.2.2.2.2.1 a.2.2.2.2.2.2.1 = evFun Tryz.prog te eqL (tb 168 c_168 (tb 100 c_100 (tb 99 c_99 (tb 62 c_62 (tb 156 c_156 (tb 107 c_107 (tb 108 c_108 (tb 29 c_29 tnil)))))))) Tryz.f124 [.d (.st 3), .d (.int .i64), .d .str, .d (.int .i64), .d .str, .d .str, .d (.int .i64)] [(.st 3, []), (.int .i64, []), (.int .i64, [])] (.s .p (.s .p (.s .p (.s .p (.s .p (.s .p (.s .p (.s .p (.s (.dr [0, 0, 0, 0, 0, 0, 0, 0, 0, 0, 0, 0, 0, 0, 0, 0, 1, 2] [] false []) (.s .p (.s .p (.s .p (.s (.dr [0, 0, 0, 1, 4, 4] [] true [2]) .p))))))))))))) a := by kernel_rfl
def c_124 : Con te := conOf te [.d (.st 3), .d (.int .i64), .d .str, .d (.int .i64), .d .str, .d .str, .d (.int .i64)] [(.st 3, []), (.int .i64, []), (.int .i64, [])] true fun a => ref10_Create a.1 a.2.1 a.2.2.1 a.2.2.2.1 a.2.2.2.2.1 a.2.2.2.2.2.1 a.2.2.2.2.2.2.1
theorem ok_124 : Con.OK Tryz.prog te 124 c_124 ∧ bodyB Tryz.prog 124 = true := ⟨conOf_ok eqL_ok (tb_ok ok_168 (tb_ok ok_100 (tb_ok ok_99 (tb_ok ok_62 (tb_ok ok_156 (tb_ok ok_107 (tb_ok ok_108 (tb_ok ok_29 tnil_ok)))))))) Tryz.func124 (by kernel_rfl) e_124, by kernel_rfl⟩
theorem e_72 (a : PA te [.d (.st 4), .d .str, .d (.int .i64), .d .str, .d (.int .i64), .d (.int .i64), .d (.int .i64)]) : ref13_Create a.1 a.2.1 a.2.2.1 a.2.2.2.1 a.2.2.2.2.1 a.2.2.2.2.2.1 a.2.2.2.2.2.2.1 = evFun Tryz.prog te eqL (tb 121 c_121 (tb 57 c_57 (tb 124 c_124 (tb 48 c_48 (tb 123 c_123 (tb 29 c_29 (tb 122 c_122 tnil))))))) Tryz.f72 [.d (.st 4), .d .str, .d (.int .i64), .d .str, .d (.int .i64), .d (.int .i64), .d (.int .i64)] [(.st 4, []), (.int .i64, []), (.int .i64, [])] (.s .p (.s .p (.s .p (.s .p (.s (.df [0, 0, 0, 0, 0, 0, 0, 0, 0, 0, 1, 4, 4, 4, 4, 1, 2, 4, 4] [] 5) (.s .p (.s .p (.j ⟨[], [(0, true, .cells 30 [.v (.sl (.st 0)), .v (.sl (.st 1)), .v (.int .i64), .v (.sl (.st 2)), .v (.sl (.int .i64))])], [7, 14, 22], [2], [], 60⟩ false .p .p)))))))) a := by kernel_rfl
def c_72 : Con te := conOf te [.d (.st 4), .d .str, .d (.int .i64), .d .str, .d (.int .i64), .d (.int .i64), .d (.int .i64)] [(.st 4, []), (.int .i64, []), (.int .i64, [])] true fun a => ref13_Create a.1 a.2.1 a.2.2.1 a.2.2.2.1 a.2.2.2.2.1 a.2.2.2.2.2.1 a.2.2.2.2.2.2.1
theorem ok_72 : Con.OK Tryz.prog te 72 c_72 ∧ bodyB Tryz.prog 72 = true := ⟨conOf_ok eqL_ok (tb_ok ok_121 (tb_ok ok_57 (tb_ok ok_124 (tb_ok ok_48 (tb_ok ok_123 (tb_ok ok_29 (tb_ok ok_122 tnil_ok))))))) Tryz.func72 (by kernel_rfl) e_72, by kernel_rfl⟩
theorem e_125 (a : PA te [.d (.st 4), .d (.st 2), .d (.int .i64)]) : ref13_grows a.1 a.2.1 a.2.2.1 = evFun Tryz.prog te eqL (tb 167 c_167 tnil) Tryz.f125 [.d (.st 4), .d (.st 2), .d (.int .i64)] [(.bool, [])] (.p : Pl) a := by kernel_rfl
def c_125 : Con te := conOf te [.d (.st 4), .d (.st 2), .d (.int .i64)] [(.bool, [])] false fun a => ref13_grows a.1 a.2.1 a.2.2.1
theorem ok_125 : Con.OK Tryz.prog te 125 c_125 ∧ bodyB Tryz.prog 125 = true := ⟨conOf_ok eqL_ok (tb_ok ok_167 tnil_ok) Tryz.func125 (by kernel_rfl) e_125, by kernel_rfl⟩
theorem e_126 (a : PA te [.d (.st 3), .d (.int .i64), .d (.int .i64), .d .str, .d .str, .d (.int .i64)]) : ref10_Write a.1 a.2.1 a.2.2.1 a.2.2.2.1 a.2.2.2.2.1 a.2.2.2.2.2.1 = evFun Tryz.prog te eqL (tb 164 c_164 (tb 165 c_165 (tb 163 c_163 (tb 162 c_162 tnil)))) Tryz.f126 [.d (.st 3), .d (.int .i64), .d (.int .i64), .d .str, .d .str, .d (.int .i64)] [(.st 3, []), (.int .i64, []), (.int .i64, [])] (.s .p (.s .p (.s .p (.s .p (.s .p (.j ⟨[(2, .d (.int .i64))], [], [3, 4, 5, 6, 12, 15], [0, 2, 12], [], 23⟩ false .p (.s .p (.s .p (.s .p (.s .p (.s (.dr [0, 0, 0, 0, 0, 1, 4, 4, 2, 4, 4] [6, 7] false []) .p))))))))))) a := by kernel_rfl
def c_126 : Con te := conOf te [.d (.st 3), .d (.int .i64), .d (.int .i64), .d .str, .d .str, .d (.int .i64)] [(.st 3, []), (.int .i64, []), (.int .i64, [])] true fun a => ref10_Write a.1 a.2.1 a.2.2.1 a.2.2.2.1 a.2.2.2.2.1 a.2.2.2.2.2.1
theorem ok_126 : Con.OK Tryz.prog te 126 c_126 ∧ bodyB Tryz.prog 126 = true := ⟨conOf_ok eqL_ok (tb_ok ok_164 (tb_ok ok_165 (tb_ok ok_163 (tb_ok ok_162 tnil_ok)))) Tryz.func126 (by kernel_rfl) e_126, by kernel_rfl⟩
theorem e_73 (a : PA te [.d (.st 4), .d .str, .d (.int .i64), .d (.int .i64), .d .str, .d (.int .i64)]) : ref13_Write a.1 a.2.1 a.2.2.1 a.2.2.2.1 a.2.2.2.2.1 a.2.2.2.2.2.1 = evFun Tryz.prog te eqL (tb 126 c_126 (tb 48 c_48 (tb 125 c_125 (tb 57 c_57 (tb 46 c_46 (tb 29 c_29 tnil)))))) Tryz.f73 [.d (.st 4), .d .str, .d (.int .i64), .d (.int .i64), .d .str, .d (.int .i64)] [(.st 4, []), (.int .i64, []), (.int .i64, [])] (.s .p (.s .p (.s .p (.j ⟨[(3, .d (.int .i64))], [], [1, 2, 4, 5, 6, 12, 15], [0, 2, 13], [], 35⟩ false .p (.s .p (.s .p (.s (.dr [0, 0, 0, 0, 0, 0, 0, 0, 1, 4, 4, 4, 4, 4, 2] [] false []) .p))))))) a := by kernel_rfl
def c_73 : Con te := conOf te [.d (.st 4), .d .str, .d (.int .i64), .d (.int .i64), .d .str, .d (.int .i64)] [(.st 4, []), (.int .i64, []), (.int .i64, [])] true fun a => ref13_Write a.1 a.2.1 a.2.2.1 a.2.2.2.1 a.2.2.2.2.1 a.2.2.2.2.2.1
theorem ok_73 : Con.OK Tryz.prog te 73 c_73 ∧ bodyB Tryz.prog 73 = true := ⟨conOf_ok eqL_ok (tb_ok ok_126 (tb_ok ok_48 (tb_ok ok_125 (tb_ok ok_57 (tb_ok ok_46 (tb_ok ok_29 tnil_ok)))))) Tryz.func73 (by kernel_rfl) e_73, by kernel_rfl⟩
theorem e_127 (a : PA te [.d (.sl (.int .i64)), .d (.int .i64)]) : ref13_without a.1 a.2.1 = evFun Tryz.prog te eqL tnil Tryz.f127 [.d (.sl (.int .i64)), .d (.int .i64)] [(.sl (.int .i64), [some 3])] (.s .p (.s .p (.s (.s .p (.lp ⟨[(5, .one (.own 5)), (9, .d (.int .i64))], [(5, false, .row 3 (.int .i64) [])], [0, 1, 8], [], [], 6⟩ ⟨[(5, .one (.own 5))], [(5, false, .row 3 (.int .i64) [])], [], [], [], 6⟩ false (.s .p (.s .p (.j ⟨[(5, .one (.own 7))], [(7, false, .row 3 (.int .i64) [])], [0, 1, 8, 9], [], [], 8⟩ false .p .p))))) .p))) a := by kernel_rfl
def c_127 : Con te := conOf te [.d (.sl (.int .i64)), .d (.int .i64)] [(.sl (.int .i64), [some 3])] false fun a => ref13_without a.1 a.2.1
theorem ok_127 : Con.OK Tryz.prog te 127 c_127 ∧ bodyB Tryz.prog 127 = true := ⟨conOf_ok eqL_ok tnil_ok Tryz.func127 (by kernel_rfl) e_127, by kernel_rfl⟩
end
end Go.Proofs.YtebcipkdnlfboaaGreat
