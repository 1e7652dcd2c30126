/-
  The statement 'PlumberCallsSaid': for every input the law returns true,and the input reads as it did. No condition beyond the statement's own.
-/
import Derived.Test.YtfbcbakhdkppoaaGreatDoorRows
import Derived.Test.YtfbcbakhdkppoaaGreatDoorCards
import Derived.Test.YtfbcbakhdkppoaaGreatDoorTie
import Derived.Test.YtfbcbakhdkppoaaGreatDoorWD10
import Derived.ProofKit
import Derived.SevenTiedAt
namespace Go.Proofs.YtfbcbakhdkppoaaGreatDoor
open Go.ChangeShapes Go.WideShapes Go.ChangeAt Go.RowKit Go.Rt Go.ChangeMaps
theorem qK_:ownKnob Tryz.prog.godebug=none:=by kernel_rfl
theorem i9_:laidOutB Tryz.prog=true:=by kernel_rfl
set_option maxRecDepth 100000 in
theorem plumberCalls_lifted(os:Os)(started:os.Started)(H:Type)(enc:tN×tW→H) :
    ReturnsInHanded {} Tryz.checked os 6 .any (fun w args=>(Rows.plumberCallsSpec.pre enc Tryz.prog Tryz.f6 [] false w args∧laidMetH Tryz.prog laidAll w)∧sizedMet enc Tryz.prog Tryz.f6 (OpenSpec.ofChange Rows.plumberCallsSpec) false w args)
      (Rows.plumberCallsSpec.post enc Tryz.prog Tryz.f6 false true false false):=by
  refine returnsInHanded_of_change_and (C:=Tryz.checked) (X:=fun w _=>laidMetH Tryz.prog laidAll w) (fun _ _ _ hh h=>h.of_heap hh) qK_ started (by kernel_rfl) Tryz.func6
    (ChangeSpec.witness_shaped (enc:=enc) (C:=Tryz.checked) (os:=os) (X:=fun w _=>laidMetH Tryz.prog laidAll w) false (World.laidAll Tryz.prog os laidAll) #[.agg #[.slice none 0 0,.slice none 0 0],.agg #[.int .i64 0,.int .i64 0,.int .i64 0,.int .i64 0,.string ⟨#[]⟩,.string ⟨#[]⟩,.string ⟨#[]⟩,.string ⟨#[]⟩,.string ⟨#[]⟩,.slice none 0 0,.string ⟨#[]⟩]] 8 (World.laidAll_os _ _ _) (World.shaped_of_ZipB (by kernel_rfl) (by kernel_rfl)) (by kernel_rfl) (by kernel_rfl) (by kernel_rfl) (door_met os _)) ?_
  intro W base args ds gs before hval0 hW _ _ hL _
  have hval:∀(j:Nat) t v,Tryz.f6.params[j]? = some t→args[j]? = some v→Value.okWide Tryz.prog W .any base t v:=hval0
  have hW':=hW
  obtain⟨p,q,hA0,hV,rfl,_,_⟩:=hW
  have hA:DataW.TrodAll enc Tryz.prog W 0 (fun _=>true) true Tryz.f6.params.toList args.toList ds p:=hA0
  rw[Tryz.params6]at hA hval
  obtain⟨v0,v1,d0,d1,p0,p1,rfl,rfl,rfl,h0,h1⟩:=trodAll_two hA
  obtain⟨rfl,rfl⟩:=trodVars_none hV
  clear hA0 hval0
  simp only[zP]at hW'
  have hlt:∀x∈p0++p1,x.block<W.heap.size:=fun x hx=>by simpa using hW'.lt x hx
  have k0:∀x∈p0,x.block<W.heap.size:=fun x hx=>hlt x (qF.2 (.inl hx))
  have harg0:∀W',Below W.heap.size W W'→DataW.Trod enc Tryz.prog W' 0 (fun b=>decide (b<W.heap.size)) true 27 v0 d0 p0:=fun W' hb=>Below.trod i9_ (by kernel_rfl) (of_decide_eq_true (by kernel_rfl)) h0 hb k0
  obtain⟨x0,⟨y0,e0,r0⟩,f0⟩:=open_arg (P:=Tryz.prog) (E:=te) (n:=12) (t:=(.st 5)) (by kernel_rfl) (hval 0 27 v0 rfl rfl) h0
  have k1:∀x∈p1,x.block<W.heap.size:=fun x hx=>hlt x (qF.2 (.inr hx))
  have harg1:∀W',Below W.heap.size W W'→DataW.Trod enc Tryz.prog W' 0 (fun b=>decide (b<W.heap.size)) true 47 v1 d1 p1:=fun W' hb=>Below.trod i9_ (by kernel_rfl) (of_decide_eq_true (by kernel_rfl)) h1 hb k1
  obtain⟨x1,⟨y1,e1,r1⟩,f1⟩:=open_arg (P:=Tryz.prog) (E:=te) (n:=12) (t:=(.st 13)) (by kernel_rfl) (hval 1 47 v1 rfl rfl) h1
  have hcall:=law_of_con (E:=te) (ps:=[.d (.st 5),.d (.st 13)]) (ali:=false) (F:=fun a=>dx_ a.1 a.2.1) ok_6.1 rfl (a:=(x0,x1,())) (y:=true) (pu_ x0 x1 f0 f1) rfl (svs:=[y0,y1]) (by simp only[b0_,e0,e1]) (.cons (r0 _) (.cons (r1 _) .nil)) (seat_glob hL)
  refine Calls.mono hcall fun e W' ⟨v,he,hv,hb⟩ => ?_
  subst he;subst hv
  refine⟨_,rfl,_,_,_,[],_,[],hW',?_,trodAll_mk2 (harg0 W' hb) (harg1 W' hb),rfl,hb.frame _,fun h=>by cases h⟩
  exact trodAll_mk1 (shut_bool (t:=4) (by kernel_rfl) true)
end Go.Proofs.YtfbcbakhdkppoaaGreatDoor
