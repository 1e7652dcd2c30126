/-
  The statement 'SnapshotReadsSaid': for every input the law returns true,and the input reads as it did. No condition beyond the statement's own.
-/
import Derived.Test.YtebokaoegomboaaGreatDoorRows
import Derived.Test.YtebokaoegomboaaGreatDoorCards
import Derived.Test.YtebokaoegomboaaGreatDoorTie
import Derived.Test.YtebokaoegomboaaGreatDoorZA8
import Derived.ProofKit
import Derived.SevenTiedAt
namespace Go.Proofs.YtebokaoegomboaaGreatDoor
open Go.ChangeShapes Go.WideShapes Go.ChangeAt Go.RowKit Go.Rt Go.ChangeMaps
theorem oZ_ {H:Type} {enc:TypeId × Value→H} {P:Program} {w:World} {base:Nat} {spare:Nat→Bool} {held:Bool} {t0 t1 t2 t3 t4 t5:TypeId} {args:Array Value} {ds:List (DataW H)} {ps:List MemPlace} (h:DataW.TrodAll enc P w base spare held [t0,t1,t2,t3,t4,t5] args.toList ds ps) :
    ∃ v0 v1 v2 v3 v4 v5 d0 d1 d2 d3 d4 d5 p0 p1 p2 p3 p4 p5,args = #[v0,v1,v2,v3,v4,v5]∧ds=[d0,d1,d2,d3,d4,d5]∧ps=p0++p1++p2++p3++p4++p5∧DataW.Trod enc P w base spare held t0 v0 d0 p0∧DataW.Trod enc P w base spare held t1 v1 d1 p1∧DataW.Trod enc P w base spare held t2 v2 d2 p2∧DataW.Trod enc P w base spare held t3 v3 d3 p3∧DataW.Trod enc P w base spare held t4 v4 d4 p4∧DataW.Trod enc P w base spare held t5 v5 d5 p5:=by
  obtain ⟨v0,vs0,d0,ds0,p0,q0,hargs,rfl,rfl,h0,r0⟩:=trodAll_cons h
  obtain ⟨v1,vs1,d1,ds1,p1,q1,rfl,rfl,rfl,h1,r1⟩:=trodAll_cons r0
  obtain ⟨v2,vs2,d2,ds2,p2,q2,rfl,rfl,rfl,h2,r2⟩:=trodAll_cons r1
  obtain ⟨v3,vs3,d3,ds3,p3,q3,rfl,rfl,rfl,h3,r3⟩:=trodAll_cons r2
  obtain ⟨v4,vs4,d4,ds4,p4,q4,rfl,rfl,rfl,h4,r4⟩:=trodAll_cons r3
  obtain ⟨v5,vs5,d5,ds5,p5,q5,rfl,rfl,rfl,h5,r5⟩:=trodAll_cons r4
  obtain ⟨rfl,rfl,rfl⟩:=trodAll_nil r5
  exact ⟨v0,v1,v2,v3,v4,v5,d0,d1,d2,d3,d4,d5,p0,p1,p2,p3,p4,p5,by cases args; simp_all,rfl,by simp,h0,h1,h2,h3,h4,h5⟩
theorem qD_ {H:Type} {enc:TypeId × Value→H} {P:Program} {w:World} {base:Nat} {spare:Nat→Bool} {held:Bool} {t0 t1 t2 t3 t4 t5:TypeId} {v0 v1 v2 v3 v4 v5:Value} {d0 d1 d2 d3 d4 d5:DataW H} {p0 p1 p2 p3 p4 p5:List MemPlace} (h0:DataW.Trod enc P w base spare held t0 v0 d0 p0) (h1:DataW.Trod enc P w base spare held t1 v1 d1 p1) (h2:DataW.Trod enc P w base spare held t2 v2 d2 p2) (h3:DataW.Trod enc P w base spare held t3 v3 d3 p3) (h4:DataW.Trod enc P w base spare held t4 v4 d4 p4) (h5:DataW.Trod enc P w base spare held t5 v5 d5 p5):DataW.TrodAll enc P w base spare held [t0,t1,t2,t3,t4,t5] [v0,v1,v2,v3,v4,v5] [d0,d1,d2,d3,d4,d5] (p0++(p1++(p2++(p3++(p4++(p5)))))) :=
  ⟨p0,p1++(p2++(p3++(p4++(p5)))),h0,⟨p1,p2++(p3++(p4++(p5))),h1,⟨p2,p3++(p4++(p5)),h2,trodAll_mk3 h3 h4 h5,rfl⟩,rfl⟩,rfl⟩
theorem pz_:ownKnob Tryz.prog.godebug=none:=by kernel_rfl
theorem bX_:laidOutB Tryz.prog=true:=by kernel_rfl
set_option maxRecDepth 100000 in
theorem snapshotReads_lifted (os:Os) (started:os.Started) (H:Type) (enc:TypeId × Value→H) :
    ReturnsInHanded {} Tryz.checked os 5 .any (fun w args=>(Rows.snapshotReadsSpec.pre enc Tryz.prog Tryz.f5 [] false w args∧laidMetH Tryz.prog laidAll w)∧sizedMet enc Tryz.prog Tryz.f5 (OpenSpec.ofChange Rows.snapshotReadsSpec) false w args)
      (Rows.snapshotReadsSpec.post enc Tryz.prog Tryz.f5 false true false false):=by
  refine returnsInHanded_of_change_and (C:=Tryz.checked) (X:=fun w _=>laidMetH Tryz.prog laidAll w) (fun _ _ _ hh h=>h.of_heap hh) pz_ started (by kernel_rfl) Tryz.func5
    (ChangeSpec.witness_shaped (enc:=enc) (C:=Tryz.checked) (os:=os) (X:=fun w _=>laidMetH Tryz.prog laidAll w) false (World.doorLaid Tryz.prog 29 os) #[.agg #[.slice none 0 0,.slice none 0 0,.int .i64 0,.slice none 0 0,.slice none 0 0,.int .i64 0,.slice none 0 0,.slice none 0 0],.string ⟨#[]⟩,.int .i64 0,.string ⟨#[]⟩,.int .i64 0,.int .i64 0] 8 rfl (World.shaped_of_RefB (by kernel_rfl) (by kernel_rfl)) (by kernel_rfl) (by kernel_rfl) (by kernel_rfl) (door_met os _)) ?_
  intro W base args ds gs before hval0 hW _ _ hL _
  have hval:∀ (j:Nat) t v,Tryz.f5.params[j]? = some t→args[j]? = some v→Value.okWide Tryz.prog W .any base t v:=hval0
  have hW':=hW
  obtain ⟨p,q,hA0,hV,rfl,_,_⟩:=hW
  have hA:DataW.TrodAll enc Tryz.prog W 0 (fun _=>true) true Tryz.f5.params.toList args.toList ds p:=hA0
  rw [Tryz.params5] at hA hval
  obtain ⟨v0,v1,v2,v3,v4,v5,d0,d1,d2,d3,d4,d5,p0,p1,p2,p3,p4,p5,rfl,rfl,rfl,h0,h1,h2,h3,h4,h5⟩:=oZ_ hA
  obtain ⟨rfl,rfl⟩:=trodVars_none hV
  clear hA0 hval0
  simp only [List.append_nil] at hW'
  have hlt:∀ x∈p0++p1++p2++p3++p4++p5,x.block<W.heap.size:=fun x hx=>by simpa using hW'.lt x hx
  have k0:∀ x∈p0,x.block<W.heap.size:=fun x hx=>hlt x (List.mem_append.2 (.inl (List.mem_append.2 (.inl (List.mem_append.2 (.inl (List.mem_append.2 (.inl (List.mem_append.2 (.inl hx))))))))))
  have harg0:∀ W',Below W.heap.size W W'→DataW.Trod enc Tryz.prog W' 0 (fun b=>decide (b<W.heap.size)) true 35 v0 d0 p0:=fun W' hb=>Below.trod bX_ (by kernel_rfl) (of_decide_eq_true (by kernel_rfl)) h0 hb k0
  obtain ⟨x0,⟨y0,e0,r0⟩,f0⟩:=fN_ (P:=Tryz.prog) (E:=te) (n:=12) (t:=(.st 8)) (by kernel_rfl) (hval 0 35 v0 rfl rfl) h0
  have k1:∀ x∈p1,x.block<W.heap.size:=fun x hx=>hlt x (List.mem_append.2 (.inl (List.mem_append.2 (.inl (List.mem_append.2 (.inl (List.mem_append.2 (.inl (List.mem_append.2 (.inr hx))))))))))
  have harg1:∀ W',Below W.heap.size W W'→DataW.Trod enc Tryz.prog W' 0 (fun b=>decide (b<W.heap.size)) true 9 v1 d1 p1:=fun W' hb=>Below.trod bX_ (by kernel_rfl) (of_decide_eq_true (by kernel_rfl)) h1 hb k1
  obtain ⟨x1,⟨y1,e1,r1⟩,f1⟩:=fN_ (P:=Tryz.prog) (E:=te) (n:=12) (t := .str) (by kernel_rfl) (hval 1 9 v1 rfl rfl) h1
  have k2:∀ x∈p2,x.block<W.heap.size:=fun x hx=>hlt x (List.mem_append.2 (.inl (List.mem_append.2 (.inl (List.mem_append.2 (.inl (List.mem_append.2 (.inr hx))))))))
  have harg2:∀ W',Below W.heap.size W W'→DataW.Trod enc Tryz.prog W' 0 (fun b=>decide (b<W.heap.size)) true 3 v2 d2 p2:=fun W' hb=>Below.trod bX_ (by kernel_rfl) (of_decide_eq_true (by kernel_rfl)) h2 hb k2
  obtain ⟨x2,⟨y2,e2,r2⟩,f2⟩:=fN_ (P:=Tryz.prog) (E:=te) (n:=12) (t:=(.int .i64)) (by kernel_rfl) (hval 2 3 v2 rfl rfl) h2
  have k3:∀ x∈p3,x.block<W.heap.size:=fun x hx=>hlt x (List.mem_append.2 (.inl (List.mem_append.2 (.inl (List.mem_append.2 (.inr hx))))))
  have harg3:∀ W',Below W.heap.size W W'→DataW.Trod enc Tryz.prog W' 0 (fun b=>decide (b<W.heap.size)) true 9 v3 d3 p3:=fun W' hb=>Below.trod bX_ (by kernel_rfl) (of_decide_eq_true (by kernel_rfl)) h3 hb k3
  obtain ⟨x3,⟨y3,e3,r3⟩,f3⟩:=fN_ (P:=Tryz.prog) (E:=te) (n:=12) (t := .str) (by kernel_rfl) (hval 3 9 v3 rfl rfl) h3
  have k4:∀ x∈p4,x.block<W.heap.size:=fun x hx=>hlt x (List.mem_append.2 (.inl (List.mem_append.2 (.inr hx))))
  have harg4:∀ W',Below W.heap.size W W'→DataW.Trod enc Tryz.prog W' 0 (fun b=>decide (b<W.heap.size)) true 3 v4 d4 p4:=fun W' hb=>Below.trod bX_ (by kernel_rfl) (of_decide_eq_true (by kernel_rfl)) h4 hb k4
  obtain ⟨x4,⟨y4,e4,r4⟩,f4⟩:=fN_ (P:=Tryz.prog) (E:=te) (n:=12) (t:=(.int .i64)) (by kernel_rfl) (hval 4 3 v4 rfl rfl) h4
  have k5:∀ x∈p5,x.block<W.heap.size:=fun x hx=>hlt x (List.mem_append.2 (.inr hx))
  have harg5:∀ W',Below W.heap.size W W'→DataW.Trod enc Tryz.prog W' 0 (fun b=>decide (b<W.heap.size)) true 3 v5 d5 p5:=fun W' hb=>Below.trod bX_ (by kernel_rfl) (of_decide_eq_true (by kernel_rfl)) h5 hb k5
  obtain ⟨x5,⟨y5,e5,r5⟩,f5⟩:=fN_ (P:=Tryz.prog) (E:=te) (n:=12) (t:=(.int .i64)) (by kernel_rfl) (hval 5 3 v5 rfl rfl) h5
  have hcall:=rk_ (E:=te) (ps:=[.d (.st 8),.d .str,.d (.int .i64),.d .str,.d (.int .i64),.d (.int .i64)]) (ali:=false) (F:=fun a=>d1_ a.1 a.2.1 a.2.2.1 a.2.2.2.1 a.2.2.2.2.1 a.2.2.2.2.2.1) ok_5.1 rfl (a:=(x0,x1,x2,x3,x4,x5,())) (y:=true) (n0_ x0 x1 x2 x3 x4 x5 f0 f1 f2 f3 f4 f5) rfl (svs:=[y0,y1,y2,y3,y4,y5]) (by simp only [bC_,e0,e1,e2,e3,e4,e5]) (.cons (r0 _) (.cons (r1 _) (.cons (r2 _) (.cons (r3 _) (.cons (r4 _) (.cons (r5 _) .nil)))))) (seat_glob hL)
  refine Calls.mono hcall fun e W' ⟨v,he,hv,hb⟩ => ?_
  subst he; subst hv
  refine ⟨_,rfl,_,_,_,[],_,[],hW',?_,qD_ (harg0 W' hb) (harg1 W' hb) (harg2 W' hb) (harg3 W' hb) (harg4 W' hb) (harg5 W' hb),rfl,hb.frame _,fun h=>by cases h⟩
  exact trodAll_mk1 (shut_bool (t:=4) (by kernel_rfl) true)
end Go.Proofs.YtebokaoegomboaaGreatDoor
