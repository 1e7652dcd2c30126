/-
  The statement 'SnapshotRightSaid': for every input the law returns true,and the input reads as it did. No condition beyond the statement's own.
-/
import Derived.Test.YtebokaoegomboaaGreatDoorRows
import Derived.Test.YtebokaoegomboaaGreatDoorCards
import Derived.Test.YtebokaoegomboaaGreatDoorTie
import Derived.Test.YtebokaoegomboaaGreatDoorZF7
import Derived.ProofKit
import Derived.SevenTiedAt
namespace Go.Proofs.YtebokaoegomboaaGreatDoor
open Go.ChangeShapes Go.WideShapes Go.ChangeAt Go.RowKit Go.Rt Go.ChangeMaps
theorem nf_:ownKnob Tryz.prog.godebug=none:=by kernel_rfl
theorem f9_:laidOutB Tryz.prog=true:=by kernel_rfl
set_option maxRecDepth 100000 in
theorem snapshotRight_lifted(os:Os)(started:os.Started)(H:Type)(enc:TypeId×Value→H) :
    ReturnsInHanded {} Tryz.checked os 4 .any (fun w args=>(Rows.snapshotRightSpec.pre enc Tryz.prog Tryz.f4 [] false w args∧laidMetH Tryz.prog laidAll w)∧sizedMet enc Tryz.prog Tryz.f4 (OpenSpec.ofChange Rows.snapshotRightSpec) false w args)
      (Rows.snapshotRightSpec.post enc Tryz.prog Tryz.f4 false true false false):=by
  refine returnsInHanded_of_change_and (C:=Tryz.checked) (X:=fun w _=>laidMetH Tryz.prog laidAll w) (fun _ _ _ hh h=>h.of_heap hh) nf_ started (by kernel_rfl) Tryz.func4
    (ChangeSpec.witness_shaped (enc:=enc) (C:=Tryz.checked) (os:=os) (X:=fun w _=>laidMetH Tryz.prog laidAll w) false (World.doorLaid Tryz.prog 29 os) #[.agg #[.slice none 0 0,.slice none 0 0,.int .i64 0,.slice none 0 0,.slice none 0 0,.int .i64 0,.slice none 0 0,.slice none 0 0],.int .i64 0] 8 rfl (World.shaped_of_RefB (by kernel_rfl) (by kernel_rfl)) (by kernel_rfl) (by kernel_rfl) (by kernel_rfl) (door_met os _)) ?_
  intro W base args ds gs before hval0 hW _ _ hL _
  have hval:∀(j:Nat) t v,Tryz.f4.params[j]? = some t→args[j]? = some v→Value.okWide Tryz.prog W .any base t v:=hval0
  have hW':=hW
  obtain⟨p,q,hA0,hV,rfl,_,_⟩:=hW
  have hA:DataW.TrodAll enc Tryz.prog W 0 (fun _=>true) true Tryz.f4.params.toList args.toList ds p:=hA0
  rw[Tryz.params4]at hA hval
  obtain⟨v0,v1,d0,d1,p0,p1,rfl,rfl,rfl,h0,h1⟩:=trodAll_two hA
  obtain⟨rfl,rfl⟩:=trodVars_none hV
  clear hA0 hval0
  simp only[List.append_nil]at hW'
  have hlt:∀x∈p0++p1,x.block<W.heap.size:=fun x hx=>by simpa using hW'.lt x hx
  have k0:∀x∈p0,x.block<W.heap.size:=fun x hx=>hlt x (List.mem_append.2 (.inl hx))
  have harg0:∀W',Below W.heap.size W W'→DataW.Trod enc Tryz.prog W' 0 (fun b=>decide (b<W.heap.size)) true 35 v0 d0 p0:=fun W' hb=>Below.trod f9_ (by kernel_rfl) (of_decide_eq_true (by kernel_rfl)) h0 hb k0
  obtain⟨x0,⟨y0,e0,r0⟩,f0⟩:=open_arg (P:=Tryz.prog) (E:=te) (n:=12) (t:=(.st 8)) (by kernel_rfl) (hval 0 35 v0 rfl rfl) h0
  have k1:∀x∈p1,x.block<W.heap.size:=fun x hx=>hlt x (List.mem_append.2 (.inr hx))
  have harg1:∀W',Below W.heap.size W W'→DataW.Trod enc Tryz.prog W' 0 (fun b=>decide (b<W.heap.size)) true 3 v1 d1 p1:=fun W' hb=>Below.trod f9_ (by kernel_rfl) (of_decide_eq_true (by kernel_rfl)) h1 hb k1
  obtain⟨x1,⟨y1,e1,r1⟩,f1⟩:=open_arg (P:=Tryz.prog) (E:=te) (n:=12) (t:=(.int .i64)) (by kernel_rfl) (hval 1 3 v1 rfl rfl) h1
  have hcall:=law_of_con (E:=te) (ps:=[.d (.st 8),.d (.int .i64)]) (ali:=false) (F:=fun a=>df_ a.1 a.2.1) ok_4.1 rfl (a:=(x0,x1,())) (y:=true) (lO_ x0 x1 f0 f1) rfl (svs:=[y0,y1]) (by simp only[bu_,e0,e1]) (.cons (r0 _) (.cons (r1 _) .nil)) (seat_glob hL)
  refine Calls.mono hcall fun e W' ⟨v,he,hv,hb⟩ => ?_
  subst he;subst hv
  refine⟨_,rfl,_,_,_,[],_,[],hW',?_,trodAll_mk2 (harg0 W' hb) (harg1 W' hb),rfl,hb.frame _,fun h=>by cases h⟩
  exact trodAll_mk1 (shut_bool (t:=4) (by kernel_rfl) true)
end Go.Proofs.YtebokaoegomboaaGreatDoor
