/-
  The statement 'PlumberNewsSaid': for every input the law returns true,and the input reads as it did. No condition beyond the statement's own.
-/
import Derived.Test.YtfbcbakhdkppoaaGreatDoorRows
import Derived.Test.YtfbcbakhdkppoaaGreatDoorCards
import Derived.Test.YtfbcbakhdkppoaaGreatDoorTie
import Derived.Test.YtfbcbakhdkppoaaGreatDoorWA8
import Derived.ProofKit
import Derived.SevenTiedAt
namespace Go.Proofs.YtfbcbakhdkppoaaGreatDoor
open Go.ChangeShapes Go.WideShapes Go.ChangeAt Go.RowKit Go.Rt Go.ChangeMaps
theorem pQ_:ownKnob Tryz.prog.godebug=none:=by kernel_rfl
theorem l5_:laidOutB Tryz.prog=true:=by kernel_rfl
set_option maxRecDepth 100000 in
theorem plumberNews_lifted(os:Os)(started:os.Started)(H:Type)(enc:TypeId×Value→H) :
    ReturnsInHanded {} Tryz.checked os 3 .any (fun w args=>(Rows.plumberNewsSpec.pre enc Tryz.prog Tryz.f3 [] false w args∧laidMetH Tryz.prog laidAll w)∧sizedMet enc Tryz.prog Tryz.f3 (OpenSpec.ofChange Rows.plumberNewsSpec) false w args)
      (Rows.plumberNewsSpec.post enc Tryz.prog Tryz.f3 false true false false):=by
  refine returnsInHanded_of_change_and (C:=Tryz.checked) (X:=fun w _=>laidMetH Tryz.prog laidAll w) (fun _ _ _ hh h=>h.of_heap hh) pQ_ started (by kernel_rfl) Tryz.func3
    (ChangeSpec.witness_shaped (enc:=enc) (C:=Tryz.checked) (os:=os) (X:=fun w _=>laidMetH Tryz.prog laidAll w) false (World.laidAll Tryz.prog os laidAll) #[.slice none 0 0] 8 (World.laidAll_os _ _ _) (World.shaped_of_ZipB (by kernel_rfl) (by kernel_rfl)) (by kernel_rfl) (by kernel_rfl) (by kernel_rfl) (lw_ os _)) ?_
  intro W base args ds gs before hval0 hW _ _ hL _
  have hval:∀(j:Nat) t v,Tryz.f3.params[j]? = some t→args[j]? = some v→Value.okWide Tryz.prog W .any base t v:=hval0
  have hW':=hW
  obtain⟨p,q,hA0,hV,rfl,_,_⟩:=hW
  have hA:DataW.TrodAll enc Tryz.prog W 0 (fun _=>true) true Tryz.f3.params.toList args.toList ds p:=hA0
  rw[Tryz.params3]at hA hval
  obtain⟨v0,d0,rfl,rfl,h0⟩:=trodAll_one hA
  obtain⟨rfl,rfl⟩:=trodVars_none hV
  clear hA0 hval0
  simp only[List.append_nil]at hW'
  have hlt:∀x∈p,x.block<W.heap.size:=fun x hx=>by simpa using hW'.lt x hx
  have k0:∀x∈p,x.block<W.heap.size:=fun x hx=>hlt x hx
  have harg0:∀W',Below W.heap.size W W'→DataW.Trod enc Tryz.prog W' 0 (fun b=>decide (b<W.heap.size)) true 22 v0 d0 p:=fun W' hb=>Below.trod l5_ (by kernel_rfl) (of_decide_eq_true (by kernel_rfl)) h0 hb k0
  obtain⟨x0,⟨y0,e0,r0⟩,f0⟩:=hI_ (P:=Tryz.prog) (E:=te) (n:=12) (t:=(.sl .str)) (by kernel_rfl) (hval 0 22 v0 rfl rfl) h0
  have hcall:=iU_ (E:=te) (ps:=[.d (.sl .str)]) (ali:=false) (F:=fun a=>c2_ a.1) ok_3.1 rfl (a:=(x0,())) (y:=true) (nE_ x0 f0) rfl (svs:=[y0]) (by simp only[bs_,e0]) (.cons (r0 _) .nil) (jT_ hL)
  refine Calls.mono hcall fun e W' ⟨v,he,hv,hb⟩ => ?_
  subst he;subst hv
  refine⟨_,rfl,_,_,_,[],_,[],hW',?_,trodAll_mk1 (harg0 W' hb),rfl,hb.frame _,fun h=>by cases h⟩
  exact trodAll_mk1 (shut_bool (t:=4) (by kernel_rfl) true)
end Go.Proofs.YtfbcbakhdkppoaaGreatDoor
