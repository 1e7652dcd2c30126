/-
  The statement 'AuditArchivesUptoSaid': for every input the law returns true,and the input reads as it did. No condition beyond the statement's own.
-/
import Derived.Test.YtokncnjohiobcaaGreatDoorRows
import Derived.Test.YtokncnjohiobcaaGreatDoorCards
import Derived.Test.YtokncnjohiobcaaGreatDoorTie
import Derived.Test.YtokncnjohiobcaaGreatDoorXA11
import Derived.ProofKit
import Derived.SevenTiedAt
import Derived.JoinedCond
namespace Go.Proofs.YtokncnjohiobcaaGreatDoor
open Go.ChangeShapes Go.WideShapes Go.ChangeAt Go.RowKit Go.Rt Go.ChangeMaps
/-- As the kit has it for a change, for a specification with a condition of its own and what is listed besides. -/
theorem oX_{H:Type}{enc:tA×tW→H}{a:Assume}{C:Checked}{os:Os}{f:FuncId}{fn:Func}{s:OpenSpec}{k:(H:Type)→tL (DataW H)→tV}(hk:s.cond=some k){F:Stop.Interp}{conds:tL PathCond}{apart fresh handsOn again:tV}{X:tS→Array tW→Prop}
    (hX:∀(w w':tS) (args:Array tW),w.heap=w'.heap→X w args→X w' args)
    (own:ownKnob C.prog.godebug=none) (started:os.Started) (noInit:C.prog.inits.idxOf? f=none) (hfn:C.prog.funcs[f]? = some fn)
    (witness:∃(w:tS) (tape:Tape) (i:Input),w.os=os∧(w.forCall tape i).Shaped C.prog∧i.vars=[]∧Input.okWide C.prog (w.forCall tape i) .any w.heap.size f i ∧
      ((s.pre enc C.prog fn conds apart (w.forCall tape i).memory i.args∧X (w.forCall tape i).memory i.args)∧sizedMet enc C.prog fn s apart (w.forCall tape i).memory i.args)∧a.holds C.prog (lone (Frame.enter C.prog f i.args .normal) [] (w.forCall tape i)))
    (contract:∀(W:tS) (base:Nat) (args:Array tW) (ds gs:tL (DataW H)) (before:tL MemPlace),
      (∀(j:Nat) t v,fn.params[j]? = some t→args[j]? = some v→Value.okWide C.prog W .any base t v) →
      DataW.Whole enc C.prog fn.params.toList s.vars apart W args.toList ds gs before →
      k H (ds++gs)=true→X W args→Calls C.prog f args W fun e W'=>∃v,e = .returned v∧(s.at F).post enc C.prog fn apart fresh handsOn again W args v W') :
    ReturnsInHanded a C os f .any (fun w args=>(s.pre enc C.prog fn conds apart w args∧X w args)∧sizedMet enc C.prog fn s apart w args) ((s.at F).post enc C.prog fn apart fresh handsOn again):=by
  refine returnsInHanded_of_calls own started noInit witness ?_
  intro w tape i _ _ _ hok hpre _
  obtain⟨_,_,_,fn',hfn',_,_,_,_,hval⟩:=hok
  have e:fn'=fn:=qSj (hfn'.symm.trans hfn)
  subst e
  obtain⟨⟨hp,hx⟩,_⟩:=hpre
  obtain⟨ds,gs,before,hw,_,hkk⟩:=(OpenSpec.pre_some hk conds apart _ _).1 hp
  have hw':=DataW.Whole.of_heap (w':=w.forCall tape i) (by rfl) hw
  refine(contract (w.forCall tape i) w.heap.size i.args ds gs before hval hw' hkk (hX _ _ _ (by rfl) hx)).mono fun e W' ⟨v,he,hp⟩ => ?_
  subst he
  exact ChangeSpec.post_blind hp
theorem bx_{H:Type}:∀{l:tL (DataW H)} {d:DataW H},d∈l→Rows.uptoBulk d≤Rows.uptoBulkAll l
  | a::l,d,h=>by
    rw[Rows.uptoBulkAll]
    rcases qV.1 h with rfl|h
    · omega
    · have:=bx_ h;omega
theorem pY_{H:Type}(d:DataW H):1≤Rows.uptoBulk d:=by
  cases d with
  | lit l=>cases l<;>simp[Rows.uptoBulk]
  | _=>simp[Rows.uptoBulk]
theorem jc_{H:Type}:∀l:tL (DataW H),l.length≤Rows.uptoBulkAll l
  | []=>qv _
  | a::l=>by
    rw[Rows.uptoBulkAll,qLc]
    have:=jc_ l
    have:=pY_ a
    omega
theorem da_{H:Type}:Bulk (Rows.uptoBulk (H:=H)) where
  str s:=by rw[Rows.uptoBulk];omega
  len es sp:=by have:=jc_ es;rw[Rows.uptoBulk];omega
  el es sp e h:=by have:=bx_ h;rw[Rows.uptoBulk];omega
  part ps e h:=by have:=bx_ h;rw[Rows.uptoBulk];omega
theorem cQ_:tyOK Tryz.prog te [3,4,9,22,23,24,26,27,29,30,32,33,34,35,36,37,38,40,41,43,47,48,49,51,52,54,55,57,58,60,61,63,64,65,67,68,69,71,73,74,80,88,91,96,98,102,103,105,108,109,110,112,114,116,117,122,124,125,127,130,131,133,139,140,142,145,147,170,172,173,175,188,190,192,194,197,212,215,222,224,227,231,256,263,265,268,271,280,286,288,331,336,338,342,357,368,370,433,438,439,441,445,447,452,456,535,537,539]=true:=by kernel_rfl
theorem pZ_:ownKnob Tryz.prog.godebug=none:=by kernel_rfl
theorem ct_:laidOutB Tryz.prog=true:=by kernel_rfl
set_option maxRecDepth 100000 in
theorem E3_ (os:Os) (started:os.Started) (H:Type) (enc:tA×tW→H) (F:Stop.Interp) :
    ReturnsInHanded {} Tryz.checked os 3 .any (fun w args=>((Rows.OpenSpec.upto Rows.auditArchivesSpec).pre enc Tryz.prog Tryz.f3 [] false w args∧laidMetH Tryz.prog laidAll w)∧sizedMet enc Tryz.prog Tryz.f3 (Rows.OpenSpec.upto Rows.auditArchivesSpec) false w args)
      (((Rows.OpenSpec.upto Rows.auditArchivesSpec).at F).post enc Tryz.prog Tryz.f3 false true false false):=by
  refine oX_ (s:=(Rows.OpenSpec.upto Rows.auditArchivesSpec)) rfl (C:=Tryz.checked) (X:=fun w _=>laidMetH Tryz.prog laidAll w) (fun _ _ _ hh h=>h.of_heap hh) pZ_ started (by kernel_rfl) Tryz.func3 ?_ ?_
  · obtain⟨w,tape,i,a1,a2,a3,a4,⟨⟨_,x1,ds,gs,before,x2,x3⟩,a6⟩,a7⟩:=ChangeSpec.witness_shaped (enc:=enc) (C:=Tryz.checked) (os:=os) (s:=Rows.auditArchivesSpec) (f:=3) (fn:=Tryz.f3) (conds:=[]) (apart:=false) (X:=fun w args=>laidMetH Tryz.prog laidAll w∧∃(ds gs:tL (DataW H)) (before:tL MemPlace),DataW.Whole enc Tryz.prog Tryz.f3.params.toList [] false w args.toList ds gs before∧Rows.uptoSmall H (ds++gs)=true) false (World.laidAll Tryz.prog os laidAll) #[.agg #[.int .i64 0,.slice none 0 0,.slice none 0 0,.int .i64 0,.slice none 0 0,.int .i64 0,.int .i64 0,.slice none 0 0,.slice none 0 0,.slice none 0 0,.slice none 0 0,.slice none 0 0,.slice none 0 0,.slice none 0 0,.slice none 0 0,.int .i64 0],.int .i64 0,.int .i64 0,.agg #[.int .i64 0,.slice none 0 0]] 8 (World.laidAll_os _ _ _) (World.shaped_of_ZipB (by kernel_rfl) (by kernel_rfl)) (by kernel_rfl) (by kernel_rfl) (by kernel_rfl) ⟨door_met os _,by
      have hb:(match DataW.whole enc Tryz.prog ((World.laidAll Tryz.prog os laidAll).forCall (fun _ _=>0) ⟨#[],#[.agg #[.int .i64 0,.slice none 0 0,.slice none 0 0,.int .i64 0,.slice none 0 0,.int .i64 0,.int .i64 0,.slice none 0 0,.slice none 0 0,.slice none 0 0,.slice none 0 0,.slice none 0 0,.slice none 0 0,.slice none 0 0,.slice none 0 0,.int .i64 0],.int .i64 0,.int .i64 0,.agg #[.int .i64 0,.slice none 0 0]],[]⟩).memory Tryz.f3.params.toList [] false #[.agg #[.int .i64 0,.slice none 0 0,.slice none 0 0,.int .i64 0,.slice none 0 0,.int .i64 0,.int .i64 0,.slice none 0 0,.slice none 0 0,.slice none 0 0,.slice none 0 0,.slice none 0 0,.slice none 0 0,.slice none 0 0,.slice none 0 0,.int .i64 0],.int .i64 0,.int .i64 0,.agg #[.int .i64 0,.slice none 0 0]].toList 8 with|some x=>Rows.uptoSmall H (x.1++x.2.1)|none=>false)=true:=by kernel_rfl
      split at hb
      · rename_i x hx
        exact⟨x.1,x.2.1,x.2.2,DataW.Whole_of_whole hx,hb⟩
      · cases hb⟩
    exact⟨w,tape,i,a1,a2,a3,a4,⟨⟨(OpenSpec.pre_some (s:=(Rows.OpenSpec.upto Rows.auditArchivesSpec)) rfl [] false _ _).2 ⟨ds,gs,before,x2,rfl,x3⟩,x1⟩,a6⟩,a7⟩
  intro W base args ds gs before hval0 hW hB0 hL
  have hval:∀(j:Nat) t v,Tryz.f3.params[j]? = some t→args[j]? = some v→Value.okWide Tryz.prog W .any base t v:=hval0
  have hW':=hW
  obtain⟨p,q,hA0,hV,rfl,_,_⟩:=hW
  have hA:DataW.TrodAll enc Tryz.prog W 0 (fun _=>true) true Tryz.f3.params.toList args.toList ds p:=hA0
  rw[Tryz.params3]at hA hval
  obtain⟨v0,v1,v2,v3,d0,d1,d2,d3,p0,p1,p2,p3,rfl,rfl,rfl,h0,h1,h2,h3⟩:=trodAll_four hA
  obtain⟨rfl,rfl⟩:=trodVars_none hV
  clear hA0 hval0
  simp only[zk]at hW'
  have hB:Rows.uptoBulkAll [d0,d1,d2,d3]≤1048576:=by simpa[Rows.uptoSmall]using hB0
  have hlt:∀x∈p0++p1++p2++p3,x.block<W.heap.size:=fun x hx=>by simpa using hW'.lt x hx
  have k0:∀x∈p0,x.block<W.heap.size:=fun x hx=>hlt x (qW.2 (.inl (qW.2 (.inl (qW.2 (.inl hx))))))
  have harg0:∀W',Below W.heap.size W W'→DataW.Trod enc Tryz.prog W' 0 (fun b=>decide (b<W.heap.size)) true 40 v0 d0 p0:=fun W' hb=>Below.trod ct_ (by kernel_rfl) (of_decide_eq_true (by kernel_rfl)) h0 hb k0
  obtain⟨x0,⟨y0,e0,r0⟩,f0⟩:=qx_ (P:=Tryz.prog) (E:=te) da_ cQ_ (t:=(.st 60)) (by kernel_rfl) (hval 0 40 v0 rfl rfl) h0 (qN (bx_ (by simp)) hB)
  have k1:∀x∈p1,x.block<W.heap.size:=fun x hx=>hlt x (qW.2 (.inl (qW.2 (.inl (qW.2 (.inr hx))))))
  have harg1:∀W',Below W.heap.size W W'→DataW.Trod enc Tryz.prog W' 0 (fun b=>decide (b<W.heap.size)) true 3 v1 d1 p1:=fun W' hb=>Below.trod ct_ (by kernel_rfl) (of_decide_eq_true (by kernel_rfl)) h1 hb k1
  obtain⟨x1,⟨y1,e1,r1⟩,f1⟩:=qx_ (P:=Tryz.prog) (E:=te) da_ cQ_ (t:=(.int .i64)) (by kernel_rfl) (hval 1 3 v1 rfl rfl) h1 (qN (bx_ (by simp)) hB)
  have k2:∀x∈p2,x.block<W.heap.size:=fun x hx=>hlt x (qW.2 (.inl (qW.2 (.inr hx))))
  have harg2:∀W',Below W.heap.size W W'→DataW.Trod enc Tryz.prog W' 0 (fun b=>decide (b<W.heap.size)) true 3 v2 d2 p2:=fun W' hb=>Below.trod ct_ (by kernel_rfl) (of_decide_eq_true (by kernel_rfl)) h2 hb k2
  obtain⟨x2,⟨y2,e2,r2⟩,f2⟩:=qx_ (P:=Tryz.prog) (E:=te) da_ cQ_ (t:=(.int .i64)) (by kernel_rfl) (hval 2 3 v2 rfl rfl) h2 (qN (bx_ (by simp)) hB)
  have k3:∀x∈p3,x.block<W.heap.size:=fun x hx=>hlt x (qW.2 (.inr hx))
  have harg3:∀W',Below W.heap.size W W'→DataW.Trod enc Tryz.prog W' 0 (fun b=>decide (b<W.heap.size)) true 43 v3 d3 p3:=fun W' hb=>Below.trod ct_ (by kernel_rfl) (of_decide_eq_true (by kernel_rfl)) h3 hb k3
  obtain⟨x3,⟨y3,e3,r3⟩,f3⟩:=qx_ (P:=Tryz.prog) (E:=te) da_ cQ_ (t:=(.st 6)) (by kernel_rfl) (hval 3 43 v3 rfl rfl) h3 (qN (bx_ (by simp)) hB)
  have hcall:=law_of_con (E:=te) (ps:=[.d (.st 60),.d (.int .i64),.d (.int .i64),.d (.st 6)]) (ali:=false) (F:=fun a=>cR_ a.1 a.2.1 a.2.2.1 a.2.2.2.1) _root_.Go.Proofs.YtokncnjohiobcaaGreatDoor.k3.1.1 rfl (a:=(x0,x1,x2,x3,())) (y:=true) (rM_ x0 x1 x2 x3 f0 f1 f2 f3) rfl (svs:=[y0,y1,y2,y3]) (by simp only[bA_,e0,e1,e2,e3]) (.cons (r0 _) (.cons (r1 _) (.cons (r2 _) (.cons (r3 _) .nil)))) (seat_glob hL)
  refine Calls.mono hcall fun e W' ⟨v,he,hv,hb⟩ => ?_
  subst he;subst hv
  refine⟨_,rfl,_,_,_,[],_,[],hW',?_,trodAll_mk4 (harg0 W' hb) (harg1 W' hb) (harg2 W' hb) (harg3 W' hb),rfl,hb.frame _,fun h=>by cases h⟩
  exact trodAll_mk1 (shut_bool (t:=4) (by kernel_rfl) true)
end Go.Proofs.YtokncnjohiobcaaGreatDoor
