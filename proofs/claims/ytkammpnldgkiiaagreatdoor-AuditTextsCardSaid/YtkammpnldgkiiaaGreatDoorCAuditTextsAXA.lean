/-
  The statement 'AuditTextsSaid': for every input the law returns true,and the input reads as it did. No condition beyond the statement's own.
-/
import Derived.Test.YtkammpnldgkiiaaGreatDoorRows
import Derived.Test.YtkammpnldgkiiaaGreatDoorCards
import Derived.Test.YtkammpnldgkiiaaGreatDoorTie
import Derived.Test.YtkammpnldgkiiaaGreatDoorXA8
import Derived.ProofKit
import Derived.SevenTiedAt
namespace Go.Proofs.YtkammpnldgkiiaaGreatDoor
open Go.ChangeShapes Go.WideShapes Go.ChangeAt Go.RowKit Go.Rt Go.ChangeMaps
theorem o7_:ownKnob Tryz.prog.godebug=none:=by kernel_rfl
theorem kv_:laidOutB Tryz.prog=true:=by kernel_rfl
set_option maxRecDepth 100000 in
theorem auditTexts_lifted(os:Os)(started:os.Started)(H:Type)(enc:TypeId×Value→H) :
    ReturnsInHanded {} Tryz.checked os 3 .any (fun w args=>(Rows.auditTextsSpec.pre enc Tryz.prog Tryz.f3 [] false w args∧laidMetH Tryz.prog laidAll w)∧sizedMet enc Tryz.prog Tryz.f3 (OpenSpec.ofChange Rows.auditTextsSpec) false w args)
      (Rows.auditTextsSpec.post enc Tryz.prog Tryz.f3 false true false false):=by
  refine returnsInHanded_of_change_and (C:=Tryz.checked) (X:=fun w _=>laidMetH Tryz.prog laidAll w) (fun _ _ _ hh h=>h.of_heap hh) o7_ started (by kernel_rfl) Tryz.func3
    (ChangeSpec.witness_shaped (enc:=enc) (C:=Tryz.checked) (os:=os) (X:=fun w _=>laidMetH Tryz.prog laidAll w) false (World.laidAll Tryz.prog os laidAll) #[.agg #[.int .i64 0,.int .i64 0,.int .i64 0]] 8 (World.laidAll_os _ _ _) (World.shaped_of_ZipB (by kernel_rfl) (by kernel_rfl)) (by kernel_rfl) (by kernel_rfl) (by kernel_rfl) (door_met os _)) ?_
  intro W base args ds gs before hval0 hW _ _ hL _
  have hval:∀(j:Nat) t v,Tryz.f3.params[j]? = some t→args[j]? = some v→Value.okWide Tryz.prog W .any base t v:=hval0
  have hW':=hW
  obtain⟨p,q,hA0,hV,rfl,_,_⟩:=hW
  have hA:DataW.TrodAll enc Tryz.prog W 0 (fun _=>true) true Tryz.f3.params.toList args.toList ds p:=hA0
  rw[Tryz.params3]at hA hval
  obtain⟨v0,d0,rfl,rfl,h0⟩:=trodAll_one hA
  obtain⟨rfl,rfl⟩:=trodVars_none hV
  clear hA0 hval0
  simp only[List.append_nil]at hW'
  have hlt:∀x∈p,x.block<W.heap.size:=fun x hx=>by simpa using hW'.lt x hx
  have k0:∀x∈p,x.block<W.heap.size:=fun x hx=>hlt x hx
  have harg0:∀W',Below W.heap.size W W'→DataW.Trod enc Tryz.prog W' 0 (fun b=>decide (b<W.heap.size)) true 23 v0 d0 p:=fun W' hb=>Below.trod kv_ (by kernel_rfl) (of_decide_eq_true (by kernel_rfl)) h0 hb k0
  obtain⟨x0,⟨y0,e0,r0⟩,f0⟩:=open_arg (P:=Tryz.prog) (E:=te) (n:=12) (t:=(.st 0)) (by kernel_rfl) (hval 0 23 v0 rfl rfl) h0
  have hcall:=law_of_con (E:=te) (ps:=[.d (.st 0)]) (ali:=false) (F:=fun a=>cN_ a.1) ok_3.1 rfl (a:=(x0,())) (y:=true) (ml_ x0 f0) rfl (svs:=[y0]) (by simp only[aI_,e0]) (.cons (r0 _) .nil) (seat_glob hL)
  refine Calls.mono hcall fun e W' ⟨v,he,hv,hb⟩ => ?_
  subst he;subst hv
  refine⟨_,rfl,_,_,_,[],_,[],hW',?_,trodAll_mk1 (harg0 W' hb),rfl,hb.frame _,fun h=>by cases h⟩
  exact trodAll_mk1 (shut_bool (t:=4) (by kernel_rfl) true)
end Go.Proofs.YtkammpnldgkiiaaGreatDoor
