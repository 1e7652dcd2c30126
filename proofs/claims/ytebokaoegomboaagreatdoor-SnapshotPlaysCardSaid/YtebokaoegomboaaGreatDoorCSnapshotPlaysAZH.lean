/-
  The statement 'SnapshotPlaysSaid': for every input the law returns true,and the input reads as it did. No condition beyond the statement's own.
-/
import Derived.Test.YtebokaoegomboaaGreatDoorRows
import Derived.Test.YtebokaoegomboaaGreatDoorCards
import Derived.Test.YtebokaoegomboaaGreatDoorTie
import Derived.Test.YtebokaoegomboaaGreatDoorZH10
import Derived.ProofKit
import Derived.SevenTiedAt
namespace Go.Proofs.YtebokaoegomboaaGreatDoor
open Go.ChangeShapes Go.WideShapes Go.ChangeAt Go.RowKit Go.Rt Go.ChangeMaps
theorem tc_:ownKnob Tryz.prog.godebug=none:=by kernel_rfl
theorem ep_:laidOutB Tryz.prog=true:=by kernel_rfl
set_option maxRecDepth 100000 in
theorem snapshotPlays_lifted(os:Os)(started:os.Started)(H:Type)(enc:TypeId×Value→H) :
    ReturnsInHanded {} Tryz.checked os 6 .any (fun w args=>(Rows.snapshotPlaysSpec.pre enc Tryz.prog Tryz.f6 [] false w args∧laidMetH Tryz.prog laidAll w)∧sizedMet enc Tryz.prog Tryz.f6 (OpenSpec.ofChange Rows.snapshotPlaysSpec) false w args)
      (Rows.snapshotPlaysSpec.post enc Tryz.prog Tryz.f6 false true false false):=by
  refine returnsInHanded_of_change_and (C:=Tryz.checked) (X:=fun w _=>laidMetH Tryz.prog laidAll w) (fun _ _ _ hh h=>h.of_heap hh) tc_ started (by kernel_rfl) Tryz.func6
    (ChangeSpec.witness_shaped (enc:=enc) (C:=Tryz.checked) (os:=os) (X:=fun w _=>laidMetH Tryz.prog laidAll w) false (World.doorLaid Tryz.prog 29 os) #[.slice none 0 0,.string ⟨#[]⟩,.int .i64 0,.slice none 0 0] 8 rfl (World.shaped_of_RefB (by kernel_rfl) (by kernel_rfl)) (by kernel_rfl) (by kernel_rfl) (by kernel_rfl) (door_met os _)) ?_
  intro W base args ds gs before hval0 hW _ _ hL _
  have hval:∀(j:Nat) t v,Tryz.f6.params[j]? = some t→args[j]? = some v→Value.okWide Tryz.prog W .any base t v:=hval0
  have hW':=hW
  obtain⟨p,q,hA0,hV,rfl,_,_⟩:=hW
  have hA:DataW.TrodAll enc Tryz.prog W 0 (fun _=>true) true Tryz.f6.params.toList args.toList ds p:=hA0
  rw[Tryz.params6]at hA hval
  obtain⟨v0,v1,v2,v3,d0,d1,d2,d3,p0,p1,p2,p3,rfl,rfl,rfl,h0,h1,h2,h3⟩:=trodAll_four hA
  obtain⟨rfl,rfl⟩:=trodVars_none hV
  clear hA0 hval0
  simp only[zj]at hW'
  have hlt:∀x∈p0++p1++p2++p3,x.block<W.heap.size:=fun x hx=>by simpa using hW'.lt x hx
  have k0:∀x∈p0,x.block<W.heap.size:=fun x hx=>hlt x (qY.2 (.inl (qY.2 (.inl (qY.2 (.inl hx))))))
  have harg0:∀W',Below W.heap.size W W'→DataW.Trod enc Tryz.prog W' 0 (fun b=>decide (b<W.heap.size)) true 22 v0 d0 p0:=fun W' hb=>Below.trod ep_ (by kernel_rfl) (of_decide_eq_true (by kernel_rfl)) h0 hb k0
  obtain⟨x0,⟨y0,e0,r0⟩,f0⟩:=qH_ (P:=Tryz.prog) (E:=te) (n:=12) (t:=(.sl (.st 0))) (by kernel_rfl) (hval 0 22 v0 rfl rfl) h0
  have k1:∀x∈p1,x.block<W.heap.size:=fun x hx=>hlt x (qY.2 (.inl (qY.2 (.inl (qY.2 (.inr hx))))))
  have harg1:∀W',Below W.heap.size W W'→DataW.Trod enc Tryz.prog W' 0 (fun b=>decide (b<W.heap.size)) true 9 v1 d1 p1:=fun W' hb=>Below.trod ep_ (by kernel_rfl) (of_decide_eq_true (by kernel_rfl)) h1 hb k1
  obtain⟨x1,⟨y1,e1,r1⟩,f1⟩:=qH_ (P:=Tryz.prog) (E:=te) (n:=12) (t := .str) (by kernel_rfl) (hval 1 9 v1 rfl rfl) h1
  have k2:∀x∈p2,x.block<W.heap.size:=fun x hx=>hlt x (qY.2 (.inl (qY.2 (.inr hx))))
  have harg2:∀W',Below W.heap.size W W'→DataW.Trod enc Tryz.prog W' 0 (fun b=>decide (b<W.heap.size)) true 3 v2 d2 p2:=fun W' hb=>Below.trod ep_ (by kernel_rfl) (of_decide_eq_true (by kernel_rfl)) h2 hb k2
  obtain⟨x2,⟨y2,e2,r2⟩,f2⟩:=qH_ (P:=Tryz.prog) (E:=te) (n:=12) (t:=(.int .i64)) (by kernel_rfl) (hval 2 3 v2 rfl rfl) h2
  have k3:∀x∈p3,x.block<W.heap.size:=fun x hx=>hlt x (qY.2 (.inr hx))
  have harg3:∀W',Below W.heap.size W W'→DataW.Trod enc Tryz.prog W' 0 (fun b=>decide (b<W.heap.size)) true 64 v3 d3 p3:=fun W' hb=>Below.trod ep_ (by kernel_rfl) (of_decide_eq_true (by kernel_rfl)) h3 hb k3
  obtain⟨x3,⟨y3,e3,r3⟩,f3⟩:=qH_ (P:=Tryz.prog) (E:=te) (n:=12) (t:=(.sl (.st 22))) (by kernel_rfl) (hval 3 64 v3 rfl rfl) h3
  have hcall:=law_of_con (E:=te) (ps:=[.d (.sl (.st 0)),.d .str,.d (.int .i64),.d (.sl (.st 22))]) (ali:=false) (F:=fun a=>e3_ a.1 a.2.1 a.2.2.1 a.2.2.2.1) ok_6.1 rfl (a:=(x0,x1,x2,x3,())) (y:=true) (rt_ x0 x1 x2 x3 f0 f1 f2 f3) rfl (svs:=[y0,y1,y2,y3]) (by simp only[ck_,e0,e1,e2,e3]) (.cons (r0 _) (.cons (r1 _) (.cons (r2 _) (.cons (r3 _) .nil)))) (seat_glob hL)
  refine Calls.mono hcall fun e W' ⟨v,he,hv,hb⟩ => ?_
  subst he;subst hv
  refine⟨_,rfl,_,_,_,[],_,[],hW',?_,trodAll_mk4 (harg0 W' hb) (harg1 W' hb) (harg2 W' hb) (harg3 W' hb),rfl,hb.frame _,fun h=>by cases h⟩
  exact trodAll_mk1 (shut_bool (t:=4) (by kernel_rfl) true)
end Go.Proofs.YtebokaoegomboaaGreatDoor
